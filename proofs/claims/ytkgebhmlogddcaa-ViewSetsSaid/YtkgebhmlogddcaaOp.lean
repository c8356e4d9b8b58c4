/- Operations, and what is known of a device's synchronisation: as values, and operations as a kind of elements. No condition: helpers alone. -/
import Derived.Test.YtkgebhmlogddcaaSn
import Derived.Deep.RegionLaw
namespace Go.Proofs.Ytkgebhmlogddcaa
open Go.RowKit

/-- Kind, Client, Id, Given, the contact -/
abbrev Opr := Int × Int × Int × Int × Con
def opA (x : Opr) : Array Value := #[.int .u8 x.1, .int .u32 x.2.1, .int .u32 x.2.2.1, .int .u8 x.2.2.2.1, .string x.2.2.2.2[0], .string x.2.2.2.2[1], .string x.2.2.2.2[2], .string x.2.2.2.2[3], .string x.2.2.2.2[4], .string x.2.2.2.2[5], .string x.2.2.2.2[6], .string x.2.2.2.2[7]]
def opZ : Opr := (0, 0, 0, 0, none8)
section
variable (x : Opr)
theorem op_size : (opA x).size = 12 := rfl
theorem op_0 : (opA x)[0]? = some (.int .u8 x.1) := rfl
theorem op_1 : (opA x)[1]? = some (.int .u32 x.2.1) := rfl
theorem op_2 : (opA x)[2]? = some (.int .u32 x.2.2.1) := rfl
theorem op_3 : (opA x)[3]? = some (.int .u8 x.2.2.2.1) := rfl
theorem op_4 : (opA x)[4]? = some (.string x.2.2.2.2[0]) := rfl
theorem op_5 : (opA x)[5]? = some (.string x.2.2.2.2[1]) := rfl
theorem op_6 : (opA x)[6]? = some (.string x.2.2.2.2[2]) := rfl
theorem op_7 : (opA x)[7]? = some (.string x.2.2.2.2[3]) := rfl
theorem op_8 : (opA x)[8]? = some (.string x.2.2.2.2[4]) := rfl
theorem op_9 : (opA x)[9]? = some (.string x.2.2.2.2[5]) := rfl
theorem op_10 : (opA x)[10]? = some (.string x.2.2.2.2[6]) := rfl
theorem op_11 : (opA x)[11]? = some (.string x.2.2.2.2[7]) := rfl
theorem op_one : (opA x).all (·.oneCell') = true := by simp [opA, Value.oneCell']
end
theorem op_fold (a b c d : Int) (e : Con) : #[Value.int .u8 a, .int .u32 b, .int .u32 c, .int .u8 d, .string e[0], .string e[1], .string e[2], .string e[3], .string e[4], .string e[5], .string e[6], .string e[7]] = opA (a, b, c, d, e) := rfl
theorem op_fold0 (a b c d : Int) : #[Value.int .u8 a, .int .u32 b, .int .u32 c, .int .u8 d, .string ⟨#[]⟩, .string ⟨#[]⟩, .string ⟨#[]⟩, .string ⟨#[]⟩, .string ⟨#[]⟩, .string ⟨#[]⟩, .string ⟨#[]⟩, .string ⟨#[]⟩] = opA (a, b, c, d, none8) := rfl
theorem op_fillg (z0 z1 z2 z3 z4 z5 z6 z7 z8 z9 z10 z11 : Value) (x : Opr) : Array.foldl (fun (cs : Array Value) (y : Value × Nat) => cs.setIfInBounds y.2 y.1) #[z0, z1, z2, z3, z4, z5, z6, z7, z8, z9, z10, z11] (opA x).zipIdx 0 12 = opA x := by
  simp [opA, List.zipIdx]
theorem op_fill (x : Opr) : Array.foldl (fun (cs : Array Value) (y : Value × Nat) => cs.setIfInBounds y.2 y.1) #[(opA opZ)[0]!, (opA opZ)[1]!, (opA opZ)[2]!, (opA opZ)[3]!, (opA opZ)[4]!, (opA opZ)[5]!, (opA opZ)[6]!, (opA opZ)[7]!, (opA opZ)[8]!, (opA opZ)[9]!, (opA opZ)[10]!, (opA opZ)[11]!] (opA x).zipIdx 0 12 = opA x := op_fillg _ _ _ _ _ _ _ _ _ _ _ _ x
theorem op_fillz (x : Opr) : Array.foldl (fun (cs : Array Value) (y : Value × Nat) => cs.setIfInBounds y.2 y.1) #[(opA (0, 0, 0, 0, none8))[0]!, (opA (0, 0, 0, 0, none8))[1]!, (opA (0, 0, 0, 0, none8))[2]!, (opA (0, 0, 0, 0, none8))[3]!, (opA (0, 0, 0, 0, none8))[4]!, (opA (0, 0, 0, 0, none8))[5]!, (opA (0, 0, 0, 0, none8))[6]!, (opA (0, 0, 0, 0, none8))[7]!, (opA (0, 0, 0, 0, none8))[8]!, (opA (0, 0, 0, 0, none8))[9]!, (opA (0, 0, 0, 0, none8))[10]!, (opA (0, 0, 0, 0, none8))[11]!] (opA x).zipIdx 0 12 = opA x := op_fillg _ _ _ _ _ _ _ _ _ _ _ _ x
theorem op_set0 (x : Opr) (a : Int) : (opA x).setIfInBounds 0 (.int .u8 a) = opA (a, x.2) := by simp [opA]
theorem op_set1 (x : Opr) (a : Int) : (opA x).setIfInBounds 1 (.int .u32 a) = opA (x.1, a, x.2.2) := by simp [opA]
theorem op_set2 (x : Opr) (a : Int) : (opA x).setIfInBounds 2 (.int .u32 a) = opA (x.1, x.2.1, a, x.2.2.2) := by simp [opA]
theorem op_set3 (x : Opr) (a : Int) : (opA x).setIfInBounds 3 (.int .u8 a) = opA (x.1, x.2.1, x.2.2.1, a, x.2.2.2.2) := by simp [opA]
theorem op_ne (x : Opr) : (opA x = #[]) = False := by simp [opA]
theorem op_fillC (x : Opr) (c : Con) : Array.foldl (fun (cs : Array Value) (y : Value × Nat) => cs.setIfInBounds (4 + y.2) y.1) (opA x) (con c).zipIdx 0 8 = opA (x.1, x.2.1, x.2.2.1, x.2.2.2.1, c) := by
  simp [opA, con, List.zipIdx]
theorem op_eta (x : Opr) : opA (x.1, x.2.1, x.2.2.1, x.2.2.2.1, x.2.2.2.2) = opA x := rfl
theorem infoOp : (Try.prog.info? 48).map (·.size) = some 12 := by kernel_rfl
theorem infoOp2 : (Try.prog.info? 48).map (fun i => (i.zero.map (·.cells.size), i.size, i.bytes)) = some (some 12, 12, 144) := by kernel_rfl
noncomputable def KO : Kind Opr := mkKind opA 12 48 71 144 (by decide) op_size op_one Try.underlying71 infoOp2
theorem KO_enc : KO.enc = opA := rfl
theorem KO_sz : KO.sz = 12 := rfl
theorem KO_t : KO.t = 71 := rfl
theorem KO_e : KO.e = 48 := rfl
theorem KO_b : KO.bytes ≤ 4096 := by show 144 ≤ 4096; decide
theorem run_storeCells_op (w : World) (n : Nat) (x : Opr) (h : rowOk w n = true) (hs : (rowAt w n).size = 12) :
    (storeCells ⟨n, 0, none⟩ (opA x).toList).run Try.prog w = .ok () (w.setRow n (opA x)) :=
  run_storeCells_row w n (opA x) h hs (op_one x)
theorem op_con (x : Opr) : (opA x).extract 4 12 = con x.2.2.2.2 := by
  obtain ⟨a, b, c, d, e⟩ := x
  apply Array.ext
  · simp [opA, con]
  · intro i h1 h2
    have hi : i < 8 := by simpa [opA] using h1
    match i, hi with
    | 0, _ | 1, _ | 2, _ | 3, _ | 4, _ | 5, _ | 6, _ | 7, _ => simp [opA, con]

theorem it_extr (x : It) : (itA x).extract 3 11 = con x.2.2.2 := by
  obtain ⟨a, b, c, d⟩ := x
  apply Array.ext
  · simp [itA, con]
  · intro i h1 h2
    have hi : i < 8 := by simpa [itA] using h1
    match i, hi with
    | 0, _ | 1, _ | 2, _ | 3, _ | 4, _ | 5, _ | 6, _ | 7, _ => simp [itA, con]
/-! ### what is known of a device's synchronisation -/
abbrev Sli := Option Addr × Nat × Nat
abbrev Gn := Int × Sli × Sli × Int × Sli × Sli × Sli × Sli × Bool × Int × Int
def sl (s : Sli) : Value := .slice s.1 s.2.1 s.2.2
def gnA (x : Gn) : Array Value :=
  match x with
  | (k, v, c, k2, v2, c2, rq, rp, li, su, wi) => #[.int .u32 k, sl v, sl c, .int .u32 k2, sl v2, sl c2, sl rq, sl rp, .bool li, .int .u8 su, .int .u8 wi]
def gnLi (x : Gn) : Bool := x.2.2.2.2.2.2.2.2.1
def gnSu (x : Gn) : Int := x.2.2.2.2.2.2.2.2.2.1
def gnWi (x : Gn) : Int := x.2.2.2.2.2.2.2.2.2.2
theorem gn_size (x : Gn) : (gnA x).size = 11 := rfl
theorem gn_8 (x : Gn) : (gnA x)[8]? = some (.bool (gnLi x)) := rfl
theorem gn_9 (x : Gn) : (gnA x)[9]? = some (.int .u8 (gnSu x)) := rfl
theorem gn_10 (x : Gn) : (gnA x)[10]? = some (.int .u8 (gnWi x)) := rfl
theorem gn_0 (x : Gn) : (gnA x)[0]? = some (.int .u32 x.1) := rfl
theorem gn_1 (x : Gn) : (gnA x)[1]? = some (sl x.2.1) := rfl
theorem gn_2 (x : Gn) : (gnA x)[2]? = some (sl x.2.2.1) := rfl
theorem gn_3 (x : Gn) : (gnA x)[3]? = some (.int .u32 x.2.2.2.1) := rfl
theorem gn_4 (x : Gn) : (gnA x)[4]? = some (sl x.2.2.2.2.1) := rfl
theorem gn_5 (x : Gn) : (gnA x)[5]? = some (sl x.2.2.2.2.2.1) := rfl
theorem gn_6 (x : Gn) : (gnA x)[6]? = some (sl x.2.2.2.2.2.2.1) := rfl
theorem gn_7 (x : Gn) : (gnA x)[7]? = some (sl x.2.2.2.2.2.2.2.1) := rfl
theorem gn_fold (x : Gn) : #[Value.int .u32 x.1, sl x.2.1, sl x.2.2.1, .int .u32 x.2.2.2.1, sl x.2.2.2.2.1, sl x.2.2.2.2.2.1, sl x.2.2.2.2.2.2.1, sl x.2.2.2.2.2.2.2.1, .bool (gnLi x), .int .u8 (gnSu x), .int .u8 (gnWi x)] = gnA x := rfl
theorem gn_one (x : Gn) : (gnA x).all (·.oneCell') = true := by simp [gnA, Value.oneCell', sl]
/-- one element more behind a row of the call's own: where the new row lies -/
theorem Kind.run_append1A {α : Type} {Kd : Kind α} {w : World} {base g : Nat} {v : Value} {l : List α} (ty : TypeId) (hown : Kd.Own w base v l) (y : α) (hr : rowOk w g = true) (hy : rowAt w g = Kd.enc y) (h63 : l.length + 1 ≤ 1048576) (hbytes : Kd.bytes ≤ 4096) (hbase : base ≤ w.heap.size) :
    ∃ v' w', (Builtin.append_ #[Kd.t, Kd.t] ty #[v, .slice (some ⟨g, 0, none⟩) 1 1]).run Try.prog w = .ok v' w' ∧ Kd.Own w' base v' (l ++ [y]) ∧ w.grownBy w' v.ownBlock ∧ (v'.ownBlock = v.ownBlock ∨ v'.ownBlock = some w.heap.size) := by
  have h1 : (l.length + 1) * Kd.bytes ≤ 1048576 * 4096 := Nat.mul_le_mul h63 hbytes
  obtain ⟨v', w', hrun, h2, h3, _, h5⟩ := run_append_own_at (P := Try.prog) w base Kd.t ty Kd.e Kd.i Kd.z Kd.sz Kd.bytes Kd.ht Kd.hi Kd.hz Kd.hs Kd.hb Kd.hzs Kd.pos v l.length (Kd.flat l) hown ⟨g, 0, none⟩ 1 1 (Kd.enc y).toList (by simp [Kd.hsz]) (by
      intro j u hu
      have hadd : (⟨g, 0, none⟩ : Addr).add j = ⟨g, j, none⟩ := by unfold Addr.add; split <;> simp_all
      rw [hadd, cell_rowOk w hr, hy]
      simpa using hu) (fun u hu => (Array.all_eq_true_iff_forall_mem.1 (Kd.one y)) u (by simpa using hu)) (by simp only [maxLen]; omega) (by omega) hbase
  exact ⟨v', w', hrun, by unfold Kind.Own; rw [Kd.flat_append, Kd.flat_one, List.length_append]; exact h2, h3, h5⟩
/-- the same, as a step of a region that draws -/
theorem Kind.step_append1 {α : Type} {Kd : Kind α} {w : World} {base : Nat} {v : Value} {l : List α} {ops : Array Oper} {o : Oper} {a : Act} {K : Act → World → Prop} {Q : Exit → Act → World → Prop} {E : Prop} (hgd : o.guard = none) (s x : Operand)
    (ho : o.op = .call { callee := .builtin .append, args := #[s, x], argTypes := #[Kd.t, Kd.t] }) (hs : a.eval s = v) (hown : Kd.Own w base v l)
    (y : α) (g : Nat) (hx : a.eval x = .slice (some ⟨g, 0, none⟩) 1 1) (hr : rowOk w g = true) (hy : rowAt w g = Kd.enc y)
    (h63 : l.length + 1 ≤ 1048576) (hbytes : Kd.bytes ≤ 4096) (hbase : base ≤ w.heap.size)
    (h : ∀ v' w', Kd.Own w' base v' (l ++ [y]) → w.grownBy w' v.ownBlock → (v'.ownBlock = v.ownBlock ∨ v'.ownBlock = some w.heap.size) → K (a.put o.dst v') w') : if Region.wanted o (yielded ops a.tmps) = true then Oper.wp Try.prog o a w K Q else E := by
  obtain ⟨v', w', hrun, h2, h3, h4⟩ := Kind.run_append1A o.type hown y hr hy h63 hbytes hbase
  have hw : Region.wanted o (yielded ops a.tmps) = true := by simp [Region.wanted, hgd]
  rw [if_pos hw]
  unfold Oper.wp execOp
  simp only [ho, resolve, invoke, builtin, Sem.run_bind, Sem.run_pure, Result.andThen_ok, List.map_toArray, List.map_cons, List.map_nil, hs, hx, hrun]
  exact h v' w' h2 h3 h4
/-- a row of another block than the one that has grown is as it was -/
theorem Kind.Own.far {α : Type} {Kd : Kind α} {w w' : World} {base n c g : Nat} {l : List α} (h : Kd.Own w base (.slice (some ⟨g, 0, none⟩) n c) l) {row : Option Nat} (hg : w.grownBy w' row) (hne : row ≠ some g) : Kd.Own w' base (.slice (some ⟨g, 0, none⟩) n c) l :=
  World.ownsRow.kept h hg (.inr (fun e => hne e.symm))
end Go.Proofs.Ytkgebhmlogddcaa

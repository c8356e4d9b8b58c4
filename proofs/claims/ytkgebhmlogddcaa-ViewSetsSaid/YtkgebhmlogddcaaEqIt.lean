/- '==' of items: one Bool. No condition. -/
import Derived.Test.YtkgebhmlogddcaaIt
import Derived.Laws.StructEq
namespace Go.Proofs.Ytkgebhmlogddcaa
open Go.RowKit
section
variable {P : Program} {d : Nat} {xs ys : Array Value} {f : Field} {fs : List Field} {a b : Value} {r s : Bool} {w : World}
theorem eqf_cons (hn : (f.name == "_") = false) (ha : (part f.type xs f.offset).run P w = .ok a w) (hb : (part f.type ys f.offset).run P w = .ok b w) (he : (Op.equalIn d f.type a b).run P w = .ok r w) (hr : (Op.eqFields d xs ys fs).run P w = .ok s w) : (Op.eqFields d xs ys (f :: fs)).run P w = .ok (r && s) w := by
  have hn' : f.name ≠ "_" := by simpa using hn
  rw [Op.eqFields]
  simp only [if_pos hn', Sem.run_bind, ha, hb, he, Result.andThen_ok]
  cases r
  · simp
  · simpa using hr
theorem eqf_nil : (Op.eqFields d xs ys []).run P w = .ok true w := by simp [Op.eqFields]
theorem eqA_of {t : TypeId} {fs : Array Field} (hu : P.underlying t = some (.struct fs)) (hp : P.stoodInHeld t = false) (h : (Op.eqFields d xs ys fs.toList).run P w = .ok r w) : (Op.equalIn (d + 1) t (.agg xs) (.agg ys)).run P w = .ok r w := by
  have hf : P.fieldsOf t = fs := by simp [Program.fieldsOf, hu]
  rw [run_equalIn_struct (P := P) w d t xs ys (by rw [hf]; exact hu) hp, hf]
  exact h
theorem part_int {t : TypeId} {k : IntKind} (h : P.underlying t = some (.int k)) (cs : Array Value) (o : Nat) (v : Value) (hv : cs[o]? = some v) : (part t cs o).run P w = .ok v w := by
  have hagg : (isAgg t).run P w = .ok false w := by unfold isAgg; rw [Sem.run_bind, run_underlying h w]; simp
  simp [part, Sem.run_bind, hagg, hv]
theorem part_arr {t e : TypeId} {n m : Nat} (h : P.underlying t = some (.array n e)) (hz : (P.info? t).map (·.size) = some m) (cs : Array Value) (o : Nat) : (part t cs o).run P w = .ok (.agg (cs.extract o (o + m))) w := by
  have hagg : (isAgg t).run P w = .ok true w := by unfold isAgg; rw [Sem.run_bind, run_underlying h w]; simp
  have hsz : (sizeOf t).run P w = .ok m w := by
    cases hq : P.info? t with
    | none => simp [hq] at hz
    | some i => simp [hq] at hz; simp [sizeOf, typeInfo, hq, hz]
  simp [part, Sem.run_bind, hagg, hsz]
end
theorem it_con (x : It) : (itA x).extract 3 (3 + 8) = con x.2.2.2 := by
  obtain ⟨a, b, c, d⟩ := x
  apply Array.ext
  · simp [itA, con]
  · intro i h1 h2
    have hi : i < 8 := by simpa [itA] using h1
    match i, hi with
    | 0, _ => simp [itA, con]
    | 1, _ => simp [itA, con]
    | 2, _ => simp [itA, con]
    | 3, _ => simp [itA, con]
    | 4, _ => simp [itA, con]
    | 5, _ => simp [itA, con]
    | 6, _ => simp [itA, con]
    | 7, _ => simp [itA, con]
theorem it_eq_bool (x y : It) : ((x.1 == y.1) && ((x.2.1 == y.2.1) && ((x.2.2.1 == y.2.2.1) && (decide (x.2.2.2 = y.2.2.2) && true)))) = decide (x = y) := by
  obtain ⟨a, b, c, d⟩ := x
  obtain ⟨a', b', c', d'⟩ := y
  rw [Bool.eq_iff_iff]
  simp
theorem equalIn_it (w : World) (x y : It) : (Op.equalIn 10000 28 (.agg (itA x)) (.agg (itA y))).run Try.prog w = .ok (decide (x = y)) w := by
  have h := eqA_of (d := 9999) (xs := itA x) (ys := itA y) (w := w) Try.underlying28 (by kernel_rfl) (r := ((x.1 == y.1) && ((x.2.1 == y.2.1) && ((x.2.2.1 == y.2.2.1) && (decide (x.2.2.2 = y.2.2.2) && true)))))
    (eqf_cons (by decide) (part_int Try.underlying23 _ _ _ (it_0 x)) (part_int Try.underlying23 _ _ _ (it_0 y)) (run_equalIn_int w 9998 _ _ _ _ _ Try.underlying23)
    (eqf_cons (by decide) (part_int Try.underlying23 _ _ _ (it_1 x)) (part_int Try.underlying23 _ _ _ (it_1 y)) (run_equalIn_int w 9998 _ _ _ _ _ Try.underlying23)
    (eqf_cons (by decide) (part_int Try.underlying24 _ _ _ (it_2 x)) (part_int Try.underlying24 _ _ _ (it_2 y)) (run_equalIn_int w 9998 _ _ _ _ _ Try.underlying24)
    (eqf_cons (by decide) (part_arr Try.underlying26 infoCon _ _) (part_arr Try.underlying26 infoCon _ _) (by
      have h := run_equalIn_con w 9997 _ _ Try.underlying26 Try.underlying9 infoStr x.2.2.2 y.2.2.2
      rw [← it_con x, ← it_con y] at h
      exact h) eqf_nil))))
  rw [h, it_eq_bool]
theorem eqg_it : Try.prog.eqGuardType Try.prog.depth 28 = false := by kernel_rfl
end Go.Proofs.Ytkgebhmlogddcaa

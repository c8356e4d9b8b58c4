/- Regions that draw, inside a fence: what reads no more than S tells may come first. -/
import Derived.Stop.RegionWithIn
namespace Go.Proofs.Ytkgebhmlogddcaa
open Go
section
variable {F : Fence} {n : Nat} {P : Program} {ops : Array Oper} {Q : Exit → Act → World → Prop} {md : Region.Mode} {S : World → Prop}

/-- carried out, and in every world of S it yields v, calls nothing and leaves the world -/
def Tells (P : Program) (ops : Array Oper) (S : World → Prop) (o : Oper) (v : Value) (a : Act) : Prop :=
  Region.wanted o (yielded ops a.tmps) = true ∧ ∀ w, S w → (execOp a.eval o).run P w = .ok (.value v) w ∧ o.about P w a.eval = none

/-- every order, with S behind every step but those of B -/
def anyS (F : Fence) (n : Nat) (P : Program) (md : Region.Mode) (ops : Array Oper) (Q : Exit → Act → World → Prop) (S : World → Prop) (B : List Nat) : Nat → Array Bool → Act → World → Prop
  | 0, listed, a, w => Region.ready md ops listed = [] ∧ Q .normal a w
  | fuel + 1, listed, a, w =>
    (Region.ready md ops listed = [] → Q .normal a w) ∧
    ∀ i ∈ Region.ready md ops listed, wpOpIn F n P ops Q i (fun a' w' => (B.contains i = false → S w') ∧ anyS F n P md ops Q S B fuel (listed.setIfInBounds i true) a' w') a w

theorem any_of_S {B : List Nat} : ∀ (fuel : Nat) (listed : Array Bool) (a : Act) (w : World), anyS F n P md ops Q S B fuel listed a w → wpAnyIn F n P md ops Q fuel listed a w
  | 0, _, _, _, h => h
  | fuel + 1, _, _, _, h => ⟨h.1, fun i hi => wpOpIn_mono (fun a' w' h' => any_of_S fuel _ a' w' h'.2) (h.2 i hi)⟩

/-- as long as i has not come, none of B may come: each waits for i or for one of B -/
def blocks (md : Region.Mode) (ops : Array Oper) (listed : Array Bool) (i : Nat) (B : List Nat) : Prop :=
  ∀ j ∈ B, listed.getD j true = false ∧ ∃ oj, ops[j]? = some oj ∧ ∃ e ∈ oj.after, Region.binds md e = true ∧ (e.on = i ∨ e.on ∈ B)
def blocksB (md : Region.Mode) (ops : Array Oper) (listed : Array Bool) (i : Nat) (B : List Nat) : Bool :=
  B.all fun j => listed.getD j true == false && (match ops[j]? with | none => false | some oj => oj.after.any fun e => Region.binds md e && (e.on == i || B.contains e.on))
theorem blocks_of {listed : Array Bool} {i : Nat} {B : List Nat} (h : blocksB md ops listed i B = true) : blocks md ops listed i B := by
  intro j hj
  have h1 := List.all_eq_true.1 h j hj
  rw [Bool.and_eq_true] at h1
  refine ⟨by simpa using h1.1, ?_⟩
  cases ho : ops[j]? with
  | none => rw [ho] at h1; cases h1.2
  | some oj =>
    rw [ho] at h1
    obtain ⟨e, he, h2⟩ := Array.any_eq_true'.1 h1.2
    rw [Bool.and_eq_true, Bool.or_eq_true] at h2
    exact ⟨oj, rfl, e, he, h2.1, by simpa using h2.2⟩
theorem blocks_not {listed : Array Bool} {i j : Nat} {B : List Nat} (h : blocks md ops listed i B) (hi : listed.getD i true = false) (hj : j ∈ Region.ready md ops listed) : j ∉ B := by
  intro hb
  obtain ⟨_, oj, hoj, e, he, hbd, hon⟩ := h j hb
  obtain ⟨_, oj', hoj', hall⟩ := mem_ready.1 hj
  rw [hoj] at hoj'; cases hoj'
  have h1 := hall e he hbd
  have h2 : listed.getD e.on true = false := by
    rcases hon with h | h'
    · rw [h]; exact hi
    · exact (h _ h').1
  rcases Nat.lt_or_ge e.on listed.size with h' | h'
  · simp [h'] at h1 h2; rw [h2] at h1; cases h1
  · simp [Array.getElem?_eq_none h'] at h1
theorem blocks_set {listed : Array Bool} {i j : Nat} {B : List Nat} (h : blocks md ops listed i B) (hj : j ∉ B) : blocks md ops (listed.setIfInBounds j true) i B := fun k hk =>
  by
  have hne : j ≠ k := fun e => hj (by rw [e]; exact hk)
  exact ⟨by rw [getD_set_ne true hne]; exact (h k hk).1, (h k hk).2⟩

theorem tells_op {i : Nat} {o : Oper} {v : Value} {a : Act} (hro : F.round = none) (hi : ops[i]? = some o) (hy : Tells P ops S o v a) {K : Act → World → Prop} {w : World} (hS : S w) (h : K (a.put o.dst v) w) : wpOpIn F n P ops Q i K a w := by
  unfold Go.wpOpIn
  obtain ⟨hv, hb⟩ := hy.2 w hS
  simp only [hi, hy.1, if_true, Oper.wpIn, hro, Oper.semAt_none, hv, Oper.uponIn]
  exact ⟨fun f hf => by rw [hb] at hf; (cases hf), h⟩

theorem tells_put {j : Nat} {oi oj : Oper} {v : Value} (hro : F.round = none) (hj : ops[j]? = some oj) (hap : oi.apart ops oj = true)
    (hsi : ∀ cs b, oi.op ≠ .select cs b) (hsj : ∀ cs b, oj.op ≠ .select cs b) (hQ : ∀ c a w, Q (.panic c) (a.put oi.dst v) w → Q (.panic c) a w) {K : Act → World → Prop} {a : Act} {w : World}
    (hy : Tells P ops S oi v a) (h : wpOpIn F n P ops Q j K (a.put oi.dst v) w) : wpOpIn F n P ops Q j (fun a' w' => Tells P ops S oi v a' ∧ K (a'.put oi.dst v) w') a w := by
  obtain ⟨h1, h2, h3⟩ := Oper.apart_spec hap
  have kq : ∀ (a : Act), Tells P ops S oi v a → ∀ u, Tells P ops S oi v (a.put oj.dst u) := fun a hy u => ⟨by rw [wanted_put oi a oj.dst u h3]; exact hy.1, fun w hS => by rw [execOp_put oi hsi a oj.dst u h3, about_put oi w a oj.dst u h3]; exact hy.2 w hS⟩
  have kp := kq a hy
  have cm : ∀ u, (a.put oi.dst v).put oj.dst u = (a.put oj.dst u).put oi.dst v := fun u => (Act.put_comm a v u h2)
  unfold wpOpIn at *
  simp only [hj] at *
  rw [wanted_put oj a oi.dst v h1, about_put oj w a oi.dst v h1] at h
  by_cases hw : Region.wanted oj (yielded ops a.tmps) = true
  · simp only [hw, if_true] at h ⊢
    unfold Oper.wpIn at *
    rw [about_put oj w a oi.dst v h1, hro, Oper.semAt_none, execOp_put oj hsj a oi.dst v h1] at h
    refine ⟨h.1, ?_⟩
    replace h := h.2
    rw [hro, Oper.semAt_none]
    generalize (execOp a.eval oj).run P w = r at *
    cases r with
    | ok x w' =>
      cases x <;> simp only [Oper.uponIn] at h ⊢
      case value u => exact ⟨kp u, cm u ▸ h⟩
      case skip => exact ⟨kp _, cm _ ▸ h⟩
      case defer d =>
        refine ⟨kq { a with defers := d :: a.defers } ⟨hy.1, hy.2⟩ undef, ?_⟩
        rw [← Act.put_comm _ v undef h2, ← Act.put_defers]
        exact h
      case enter f args => exact ⟨h.1, CallsIn.mono h.2 fun e w'' he => by cases e <;> first | exact ⟨kp _, cm _ ▸ he⟩ | exact hQ _ _ _ he | exact he⟩
      case row row args => exact ⟨h.1, RowsIn.mono h.2 fun u w'' he => ⟨kp u, cm u ▸ he⟩⟩
      case round l f tmps assign body => exact ⟨h.1, RoundIn.mono h.2 fun e w'' he => by cases e <;> first | exact ⟨kp _, cm _ ▸ he⟩ | exact hQ _ _ _ he | exact he⟩
    | halt x w' =>
      cases x <;> simp only [Oper.uponIn] at h ⊢
      case panic u => exact hQ _ _ _ h
  · simp only [hw] at h ⊢
    exact ⟨h.1, kp _, cm _ ▸ h.2⟩

theorem anyS_first {E B : List Nat} (hE : ∀ j ∈ E, j ∈ B) {i : Nat} {oi : Oper} {v : Value} (hro : F.round = none) (hi : ops[i]? = some oi) (hsel : ∀ (j : Nat) (o : Oper) cs b, ops[j]? = some o → o.op ≠ .select cs b)
    (hQ : ∀ c a w, Q (.panic c) (a.put oi.dst v) w → Q (.panic c) a w) : ∀ (fuel : Nat) (listed : Array Bool) (a : Act) (w : World),
      (∀ j oj, ops[j]? = some oj → j ≠ i → listed.getD j true = false → (∀ e ∈ oj.after, Region.binds md e = true → e.on ≠ i) → oi.apart ops oj = true) →
      i ∈ Region.ready md ops listed → blocks md ops listed i B → Tells P ops S oi v a → S w → anyS F n P md ops Q S E fuel (listed.setIfInBounds i true) (a.put oi.dst v) w → anyS F n P md ops Q S E (fuel + 1) listed a w
  | 0, listed, a, w, _, hr, _, hy, hS, H => by
    refine ⟨fun h => (by rw [h] at hr; cases hr), fun j hj => ?_⟩
    rcases Nat.decEq j i with hji | rfl
    · have := ready_mono hj hji
      rw [H.1] at this; cases this
    · exact tells_op hro hi hy hS ⟨fun _ => hS, H⟩
  | fuel + 1, listed, a, w, hfree, hr, hbl, hy, hS, H => by
    refine ⟨fun h => (by rw [h] at hr; cases hr), fun j hj => ?_⟩
    rcases Nat.decEq j i with hji | rfl
    · have hnB := blocks_not hbl (mem_ready.1 hr).1 hj
      have hnC : E.contains j = false := by simpa using fun h => hnB (hE j h)
      obtain ⟨hjun, oj, hoj, hall⟩ := mem_ready.1 hj
      have hnot : ∀ e ∈ oj.after, Region.binds md e = true → e.on ≠ i := fun e he hb heq => by
        have h1 := hall e he hb
        have h0 := (mem_ready.1 hr).1
        rw [heq] at h1
        rcases Nat.lt_or_ge i listed.size with h' | h'
        · simp [h'] at h0 h1; rw [h0] at h1; cases h1
        · simp [Array.getElem?_eq_none h'] at h1
      refine wpOpIn_mono (fun a' w' h3 => ⟨h3.2.1, anyS_first hE hro hi hsel hQ fuel (listed.setIfInBounds j true) a' w' ?_ (ready_mono hr (Ne.symm hji)) (blocks_set hbl hnB) h3.1 (h3.2.1 hnC) ?_⟩)
        (tells_put hro hoj (hfree j oj hoj hji hjun hnot) (fun cs b => hsel i oi cs b hi) (fun cs b => hsel j oj cs b hoj) hQ hy (H.2 j (ready_mono hj hji)))
      · intro k ok hk hki hun hno
        refine hfree k ok hk hki ?_ hno
        rcases Nat.decEq j k with hjk | rfl
        · rw [getD_set_ne true hjk] at hun; exact hun
        · exact hjun
      · rw [Array.setIfInBounds_comm _ _ hji]; exact h3.2.2
    · exact tells_op hro hi hy hS ⟨fun _ => hS, H⟩

theorem anyS_take (i : Nat) (B : List Nat) {E : List Nat} {oi : Oper} {v : Value} {fuel : Nat} {listed : Array Bool} {a : Act} {w : World} (hro : F.round = none) (hi : ops[i]? = some oi)
    (hs : Region.noSelect ops = true) (hf : Region.free md ops listed i = true) (hr : (Region.ready md ops listed).contains i = true) (hb : blocksB md ops listed i B = true) (hE : E.all (fun j => B.contains j) = true)
    (hQ : ∀ c a w, Q (.panic c) (a.put oi.dst v) w → Q (.panic c) a w) (hy : Tells P ops S oi v a) (hS : S w)
    (h : anyS F n P md ops Q S E fuel (listed.setIfInBounds i true) (a.put oi.dst v) w) : anyS F n P md ops Q S E (fuel + 1) listed a w :=
  anyS_first (fun j hj => by simpa using List.all_eq_true.1 hE j hj) hro hi (Region.noSelect_spec hs) hQ fuel listed a w (Region.free_spec hi hf) (by simpa using hr) (blocks_of hb) hy hS h

/-- only one operation may come up -/
theorem anyS_one (i : Nat) {B : List Nat} {o : Oper} {fuel : Nat} {listed : Array Bool} {a : Act} {w : World} (hr : Region.ready md ops listed = [i]) (hi : ops[i]? = some o) (hw : Region.wanted o (yielded ops a.tmps) = true)
    (h : ∀ K : Act → World → Prop, (∀ a' w', (B.contains i = false → S w') → anyS F n P md ops Q S B fuel (listed.setIfInBounds i true) a' w' → K a' w') → o.wpIn F n P a w K Q) : anyS F n P md ops Q S B (fuel + 1) listed a w := by
  refine ⟨fun h0 => (by rw [hr] at h0; cases h0), fun j hj => ?_⟩
  rw [hr] at hj
  obtain rfl := List.mem_singleton.1 hj
  unfold wpOpIn
  simp only [hi, hw, if_true]
  exact h _ fun a' w' h1 h2 => ⟨h1, h2⟩
theorem anyS_done {B : List Nat} {listed : Array Bool} {a : Act} {w : World} (hr : Region.ready md ops listed = []) (h : Q .normal a w) : ∀ fuel, anyS F n P md ops Q S B fuel listed a w
  | 0 => ⟨hr, h⟩
  | fuel + 1 => ⟨fun _ => h, fun i hi => by rw [hr] at hi; cases hi⟩
/-- a region that draws: all orders -/
theorem region_anyS (S : World → Prop) (B : List Nat) {id : Nat} {a : Act} {w : World} (hm : P.follows .mixedOrders = true) (h : anyS F n P .any ops Q S B ops.size (Array.replicate ops.size false) a w.drew) : (Code.region id ops true).wpIn F n P Q a w :=
  wpIn_region_any hm (any_of_S _ _ _ _ h)
end
end Go.Proofs.Ytkgebhmlogddcaa

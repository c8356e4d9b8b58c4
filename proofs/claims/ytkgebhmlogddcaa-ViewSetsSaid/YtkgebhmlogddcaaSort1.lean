/- The order by Seq; insertion sort of a part of a row of items. -/
import Derived.Test.YtkgebhmlogddcaaStK
import Derived.Test.YtkgebhmlogddcaaPend1
import Derived.Test.YtkgebhmlogddcaaItemLaw
import Derived.Deep.RegionLaw
namespace Go.Proofs.Ytkgebhmlogddcaa
open Go.RowKit
set_option linter.unusedSimpArgs false
attribute [local go_sem] rowAt_alloc_at rowAt_alloc_past rowOk_alloc_at rowOk_alloc_past rowAt_drew rowOk_drew setRow_alloc_at setRow_alloc_past rowAt_setRow rowAt_setRow_far rowOk_setRow cell_rowOk frozen_rowOk setCell_rowOk setRow_setRow con_fold con_get con_size con_set set_all none8_cells equalIn_con storeCells_con
attribute [local go_sem] it_size it_0 it_1 it_2 it_3 it_4 it_5 it_6 it_7 it_8 it_9 it_10 it_set0 it_set1 it_set2 it_fold it_zero it_eta it_fill run_storeCells_it

/-! ### by rising Seq, of equal ones as they stood -/
def isort (l : List It) : List It := l.foldl insQ []
def SeqLe (x y : It) : Prop := x.2.2.1 ≤ y.2.2.1
theorem isort_nil : isort [] = [] := rfl
theorem isort_snoc (l : List It) (x : It) : isort (l ++ [x]) = insQ (isort l) x := by simp [isort]
theorem isort_one (x : It) : isort [x] = [x] := by simp [isort, insQ, qpos]
theorem isort_len (l : List It) : (isort l).length = l.length := by
  have h : ∀ (l o : List It), (l.foldl insQ o).length = l.length + o.length := by
    intro l
    induction l with
    | nil => intro o; simp
    | cons x l ih => intro o; rw [List.foldl_cons, ih, insQ_len, List.length_cons]; omega
  rw [isort, h]; simp
theorem insQ_sorted {L : List It} (x : It) (h : L.Pairwise SeqLe) : (insQ L x).Pairwise SeqLe := by
  induction L with
  | nil => simp [insQ, qpos]
  | cons y L ih =>
    rw [List.pairwise_cons] at h
    by_cases hy : y.2.2.1 ≤ x.2.2.1
    · have e : qpos (y :: L) x = qpos L x + 1 := by simp [qpos, hy]
      have e2 : insQ (y :: L) x = y :: insQ L x := by rw [insQ, e]; simp [insQ]
      rw [e2, List.pairwise_cons]
      refine ⟨fun z hz => ?_, ih h.2⟩
      have : z ∈ L ∨ z = x := by
        unfold insQ at hz
        rw [List.append_assoc, List.mem_append, List.mem_append, List.mem_singleton] at hz
        rcases hz with hz | hz | hz
        · exact .inl (List.mem_of_mem_take hz)
        · exact .inr hz
        · exact .inl (List.mem_of_mem_drop hz)
      rcases this with hz | rfl
      · exact h.1 z hz
      · exact hy
    · have e : qpos (y :: L) x = 0 := by simp [qpos, hy]
      have e2 : insQ (y :: L) x = x :: y :: L := by rw [insQ, e]; simp
      rw [e2, List.pairwise_cons]
      refine ⟨fun z hz => ?_, List.pairwise_cons.2 h⟩
      unfold SeqLe
      rcases List.mem_cons.1 hz with rfl | hz
      · omega
      · have := h.1 z hz; unfold SeqLe at this; omega
theorem isort_sorted (l : List It) : (isort l).Pairwise SeqLe := by
  have h : ∀ (l o : List It), o.Pairwise SeqLe → (l.foldl insQ o).Pairwise SeqLe := by
    intro l
    induction l with
    | nil => intro o ho; exact ho
    | cons x l ih => intro o ho; exact ih _ (insQ_sorted x ho)
  exact h l [] List.Pairwise.nil
theorem qpos_iff {S : List It} (x : It) (h : S.Pairwise SeqLe) (q : Nat) (hq : q < S.length) : x.2.2.1 < S[q].2.2.1 ↔ qpos S x ≤ q := by
  constructor
  · intro h1
    rcases Nat.lt_or_ge q (qpos S x) with h2 | h2
    · have := qpos_lt S x q h2 hq; omega
    · exact h2
  · intro h1
    have h2 := qpos_at S x (by omega)
    rcases Nat.lt_or_eq_of_le h1 with h3 | h3
    · have h4 := (List.pairwise_iff_getElem.1 h) (qpos S x) q (by omega) hq h3
      unfold SeqLe at h4; omega
    · subst h3; exact h2
/-- a part of a list in order -/
def sortSeg (L : List It) (a b : Nat) : List It := L.take a ++ isort ((L.drop a).take (b - a)) ++ L.drop b
theorem sortSeg_len (L : List It) (a b : Nat) (hab : a ≤ b) (hb : b ≤ L.length) : (sortSeg L a b).length = L.length := by
  simp only [sortSeg, List.length_append, isort_len, List.length_take, List.length_drop]; omega
theorem sortSeg_start (L : List It) (a : Nat) : sortSeg L a (a + 1) = L := by
  rw [sortSeg, show a + 1 - a = 1 by omega]
  rcases Nat.lt_or_ge a L.length with h | h
  · have e : (L.drop a).take 1 = [L[a]] := by
      rw [List.drop_eq_getElem_cons h]; rfl
    rw [e, isort_one, List.append_assoc]
    simp
  · rw [List.drop_of_length_le h, List.drop_of_length_le (by omega), List.take_of_length_le h]; simp [isort]
theorem sortSeg_same (L : List It) (a : Nat) : sortSeg L a a = L := by rw [sortSeg, Nat.sub_self]; simp [isort]
/-- an element on its way down -/
def stageI (P S R : List It) (x : It) (q : Nat) : List It := P ++ S.take q ++ [x] ++ S.drop q ++ R
theorem stageI_len (P S R : List It) (x : It) (q : Nat) (hq : q ≤ S.length) : (stageI P S R x q).length = P.length + S.length + 1 + R.length := by
  simp only [stageI, List.length_append, List.length_take, List.length_drop, List.length_cons, List.length_nil]; omega
theorem stageI_at (P S R : List It) (x : It) (q : Nat) (hq : q ≤ S.length) (h : P.length + q < (stageI P S R x q).length) : (stageI P S R x q)[P.length + q] = x := by
  have e : (P ++ S.take q).length = P.length + q := by rw [List.length_append, List.length_take]; omega
  have h1 : stageI P S R x q = (P ++ S.take q) ++ x :: (S.drop q ++ R) := by simp [stageI]
  have h2 : (stageI P S R x q)[P.length + q]? = some x := by
    rw [h1, List.getElem?_append_right (by omega), e, Nat.sub_self]; rfl
  rw [List.getElem?_eq_getElem h] at h2
  exact Option.some.inj h2
theorem stageI_split (P S R : List It) (x : It) (q : Nat) (hq : q + 1 ≤ S.length) : stageI P S R x (q + 1) = (P ++ S.take q) ++ S[q] :: x :: (S.drop (q + 1) ++ R) ∧ stageI P S R x q = (P ++ S.take q) ++ x :: S[q] :: (S.drop (q + 1) ++ R) := by
  have e1 : S.take (q + 1) = S.take q ++ [S[q]] := List.take_succ_eq_append_getElem (by omega)
  have e2 : S.drop q = S[q] :: S.drop (q + 1) := List.drop_eq_getElem_cons (by omega)
  constructor
  · rw [stageI, e1]; simp only [List.append_assoc, List.singleton_append, List.cons_append, List.nil_append]
  · rw [stageI, e2]; simp only [List.append_assoc, List.singleton_append, List.cons_append, List.nil_append]
theorem stageI_below (P S R : List It) (x : It) (q : Nat) (hq : q + 1 ≤ S.length) (h : P.length + q < (stageI P S R x (q + 1)).length) : (stageI P S R x (q + 1))[P.length + q] = S[q] := by
  have e : (P ++ S.take q).length = P.length + q := by rw [List.length_append, List.length_take]; omega
  have h1 := (stageI_split P S R x q hq).1
  have h2 : (stageI P S R x (q + 1))[P.length + q]? = some S[q] := by
    rw [h1, List.getElem?_append_right (by omega), e, Nat.sub_self]; rfl
  rw [List.getElem?_eq_getElem h] at h2
  exact Option.some.inj h2
theorem set_two (U V : List It) (a b c d : It) : ((U ++ a :: b :: V).set (U.length + 1) c).set U.length d = U ++ d :: c :: V := by
  induction U with
  | nil => rfl
  | cons u U ih => simp only [List.cons_append, List.length_cons, List.set_cons_succ, ih]
theorem stageI_swap (P S R : List It) (x : It) (q : Nat) (hq : q + 1 ≤ S.length) : ((stageI P S R x (q + 1)).set (P.length + q + 1) S[q]).set (P.length + q) x = stageI P S R x q := by
  have e : (P ++ S.take q).length = P.length + q := by rw [List.length_append, List.length_take]; omega
  obtain ⟨h1, h2⟩ := stageI_split P S R x q hq
  rw [h1, h2, ← e, set_two]
theorem seg_start (L : List It) (a k : Nat) (ha : a + 1 ≤ k) (hk : k < L.length) :
    sortSeg L a k = stageI (L.take a) (isort ((L.drop a).take (k - a))) (L.drop (k + 1)) L[k] (isort ((L.drop a).take (k - a))).length := by
  rw [stageI, List.take_of_length_le (Nat.le_refl _), List.drop_of_length_le (Nat.le_refl _), sortSeg, List.drop_eq_getElem_cons hk]; simp
theorem seg_end (L : List It) (a k : Nat) (ha : a + 1 ≤ k) (hk : k < L.length) :
    sortSeg L a (k + 1) = stageI (L.take a) (isort ((L.drop a).take (k - a))) (L.drop (k + 1)) L[k] (qpos (isort ((L.drop a).take (k - a))) L[k]) := by
  have e : (L.drop a).take (k + 1 - a) = (L.drop a).take (k - a) ++ [L[k]] := by
    rw [show k + 1 - a = (k - a) + 1 by omega, List.take_succ_eq_append_getElem (by rw [List.length_drop]; omega), List.getElem_drop]
    congr 2
    congr 1; omega
  rw [sortSeg, e, isort_snoc, insQ, stageI]; simp

/-! ### comparing -/
set_option maxHeartbeats 400000 in
theorem fresh1_any (x y : It) (w : World) :
    Calls Try.prog 85 #[.agg (itA x), .agg (itA y)] w fun e w' => e = .returned (.int .i64 (cmpI x.2.2.1 y.2.2.1)) ∧ New w w' := by
  by_cases h1 : x.2.2.1 < y.2.2.1
  · go_enter Try.func85, Try.ntmps85
    go_wp2
    go_ret
    exact ⟨by simp only [cmpI, if_pos h1]; rfl, ((New.rfl' w).alloc' _).alloc' _⟩
  · by_cases h2 : y.2.2.1 < x.2.2.1
    · go_enter Try.func85, Try.ntmps85
      go_wp2
      go_ret
      exact ⟨by rw [cmpI, if_neg (by omega), if_pos (by omega)]; rfl, ((New.rfl' w).alloc' _).alloc' _⟩
    · go_enter Try.func85, Try.ntmps85
      go_wp2
      go_ret
      exact ⟨by rw [cmpI, if_neg (by omega), if_neg (by omega)]; rfl, ((New.rfl' w).alloc' _).alloc' _⟩
theorem own_it {w : World} {base n c g : Nat} {m : List It} (h : KI.Own w base (.slice (some ⟨g, 0, none⟩) n c) m) :
    ∀ w', New w w' → ∀ k (hk : k < m.length) j, j < 11 → w'.cell? ⟨g, k * 11 + j, none⟩ = (itA m[k])[j]? := by
  obtain ⟨hr, _⟩ := Kind.Rd.of_own h
  intro w' hw k hk j hj
  obtain ⟨b, o, e, hb, hc⟩ := hr.2 (by have := hr.1; omega)
  injection e with e
  injection e with e1 e2
  subst e1; subst e2
  have c0 := hc k hk j hj
  rw [KI_sz, KI_enc, Nat.zero_add] at c0
  exact (hw.cell (p := ⟨g, _, none⟩) hb).trans c0
end Go.Proofs.Ytkgebhmlogddcaa

/- For every input: what becomes of anything that is done to an item, and what the device is told of it, is what the reference says, and the given examples answer as they must. Conditions: none beyond the given statement's own. -/
import Derived.Test.YtaiejpjiacnfpaaPClashOfx2
namespace Go.Proofs.Ytaiejpjiacnfpaa.Pure
open Go.RowKit Go.Proofs.Ytaiejpjiacnfpaa.PClashOf Go.Proofs.YtaiejpjiacnfpaaW.PrintWords Go.Proofs.YtaiejpjiacnfpaaW.PrintLast

theorem lives_true : cardexlaw21_lives.f 5 = some true := by decide

theorem of_same (a0 : Int) (a1 : Bool) (a2 : Int) (a3 : Bool) (a4 : Int) (a5 : Int) :
    ∃ r, clash_Of.f 5 a0 a1 a2 a3 a4 a5 = some r ∧ cardexref21_Of.f 5 a0 a1 a2 a3 a4 a5 = some r := by
  by_cases h2 : a0 = 2 <;> by_cases h3 : a0 = 3 <;> by_cases h4 : a0 = 4 <;> cases a1 <;> cases a3 <;>
    by_cases h5 : a2 = a4 <;> by_cases h6 : a5 = 1 <;>
    simp [clash_Of.f, clash_Of.j0, clash_Of.j1, clash_Of.j2, cardexref21_Of.f, cardexref21_Of.j0, cardexref21_Of.j1, cardexref21_Of.j2, *]
  all_goals omega

theorem status_same (a : Int) : ∃ r, clash_Status.f a = some r ∧ cardexref21_Status.f a = some r := by
  unfold clash_Status.f cardexref21_Status.f
  repeat' split
  all_goals exact ⟨_, rfl, rfl⟩

theorem ClashOf : cardexlaw21_ClashOf.Pure := by
  intro a0 a1 a2 a3 a4 a5 a6 _ _ _ _ _
  obtain ⟨r, h1, h2⟩ := of_same a0 a1 a2 a3 a4 a5
  obtain ⟨q, h3, h4⟩ := status_same a6
  refine ⟨5, ?_⟩
  simp [cardexlaw21_ClashOf.f, h1, h2, h3, h4, lives_true]

end Go.Proofs.Ytaiejpjiacnfpaa.Pure

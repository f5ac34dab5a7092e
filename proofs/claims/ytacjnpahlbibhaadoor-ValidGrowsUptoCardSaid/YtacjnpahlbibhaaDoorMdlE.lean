/- Plain functions: the bytes of a function's body, of a module. No program in sight. -/
import Derived.Test.YtacjnpahlbibhaaDoorMdlD
set_option linter.unusedVariables false
namespace Go.Proofs.YtacjnpahlbibhaaDoor

/-- How many of the first 'k' differ from the one ahead. -/
def bndTo (l : List Int) : Nat → Nat
  | 0 => 0
  | k + 1 => bndTo l k + (if k = 0 ∨ l[k]? ≠ l[k - 1]? then 1 else 0)
def runLen (a : Int) (l : List Int) : Nat := (l.takeWhile (· == a)).length
theorem runLen_le (a : Int) (l : List Int) : runLen a l ≤ l.length := by
  unfold runLen; exact (List.takeWhile_sublist _).length_le
theorem runLen_eq {a : Int} : ∀ {l : List Int} {j : Nat}, j ≤ l.length → (∀ i, i < j → l[i]? = some a) → (j < l.length → l[j]? ≠ some a) → runLen a l = j := by
  intro l
  induction l with
  | nil => intro j hj _ _; simp at hj; subst hj; rfl
  | cons b r ih =>
    intro j hj h1 h2
    unfold runLen
    cases j with
    | zero =>
      have : b ≠ a := by have := h2 (by simp); simpa using this
      rw [List.takeWhile_cons_of_neg (by simpa using this)]; rfl
    | succ j =>
      have : b = a := by have := h1 0 (by omega); simpa using this
      rw [List.takeWhile_cons_of_pos (by simpa using this), List.length_cons]
      congr 1
      exact ih (by simpa using hj) (fun i hi => by have := h1 (i + 1) (by omega); simpa using this) (fun h => by have := h2 (by simpa using h); simpa using this)
def runsE : List Int → E
  | [] => E.nil
  | a :: r => ((numE ((1 + runLen a r : Nat) : Int)).app (kindsE [a])).app (runsE (r.drop (runLen a r)))
termination_by l => l.length
decreasing_by simp; omega
def bodyE (x : Code) : E := ((numE (bndTo x.locals x.locals.length : Nat)).app (runsE x.locals)).app (writeE x.body)
def codeE (x : Code) : E :=
  (E.app ⟨[], decide ((x.locals.length : Int) ≤ 512)⟩ ⟨[], (bodyE x).ok⟩).app ((numE (bodyE x).b.length).app ⟨(bodyE x).b, true⟩)
def fcodeW (x : Code) : Nat := 100 + 11 * x.locals.length + codeW x.body
theorem bndTo_succ (l : List Int) (k : Nat) : bndTo l (k + 1) = bndTo l k + (if k = 0 ∨ l[k]? ≠ l[k - 1]? then 1 else 0) := rfl
theorem bndTo_le (l : List Int) (k : Nat) : bndTo l k ≤ k := by
  induction k with
  | zero => exact Nat.le_refl _
  | succ k ih => rw [bndTo]; split <;> omega
end Go.Proofs.YtacjnpahlbibhaaDoor

/- Plain functions: the bytes of an instruction, of an expression. No program in sight. -/
import Derived.Test.YtacjnpahlbibhaaDoorMdlB
set_option linter.unusedVariables false
namespace Go.Proofs.YtacjnpahlbibhaaDoor

structure Instr where
  op : Int
  a : Int
  b : Int
  lo : Int
  hi : Int
  l : List Int
deriving DecidableEq
def numE (n : Int) : E := ⟨lebU (n % 18446744073709551616).toNat, decide (0 ≤ n) && decide (n < 4294967296)⟩
def numsE (l : List Int) : E := E.cat (l.map numE)
def isNum (n : Int) : Bool := decide (0 ≤ n) && decide (n < 4294967296)
def byteAt (x : Int) (i : Nat) : Int := x / 2 ^ (8 * i) % 256
def joinB (lo hi : Int) : List Int := (List.range 8).map (byteAt lo) ++ (List.range 8).map (byteAt hi)
def useA (f : Int) : Bool := decide (f = 2 ∨ f = 3 ∨ f = 4 ∨ f = 5 ∨ f = 6 ∨ f = 7 ∨ f = 8 ∨ f = 13)
def useB (f : Int) : Bool := decide (f = 6 ∨ f = 7 ∨ f = 8)
def useLo (f : Int) : Bool := decide (f = 8 ∨ f = 9 ∨ f = 10 ∨ f = 11 ∨ f = 12)
def useHi (f : Int) : Bool := decide (f = 11 ∨ f = 12)
/-- The fields that a form doesn't use must be empty. -/
def restOk (x : Instr) (f : Int) : Bool :=
  if f ≠ 4 ∧ 0 < x.l.length then false else (((useA f || x.a == 0) && (useB f || x.b == 0)) && (useLo f || x.lo == 0)) && (useHi f || x.hi == 0)
def s32 (x : Int) : Int := (x + 2147483648) % 4294967296 - 2147483648
def s64 (x : Int) : Int := (x + 9223372036854775808) % 18446744073709551616 - 9223372036854775808
def opB (op : Int) : List Int := if op ≥ 64768 then 253 :: lebU (op - 64768).toNat else [op % 256]
/-- Numbers, vectors, bytes. -/
def constE (x : Instr) (f : Int) : E :=
  if f = 9 then ⟨lebS (s32 x.lo), decide (x.lo < 4294967296)⟩
  else if f = 10 then ⟨lebS (s64 x.lo), true⟩
  else if f = 13 then ⟨[x.a % 256], decide (0 ≤ x.a) && decide (x.a < 256)⟩
  else if f = 14 then ⟨[0], true⟩
  else ⟨joinB x.lo x.hi, true⟩
def argE (x : Instr) (f : Int) : E :=
  if f = 1 then E.nil
  else if f = 2 then (if x.a = -64 ∨ x.a = -1 ∨ x.a = -2 ∨ x.a = -5 then ⟨[(x.a + 128) % 256], true⟩ else ⟨lebS x.a, isNum x.a⟩)
  else if f = 3 ∨ f = 5 then numE x.a
  else if f = 4 then (E.app ⟨lebU x.l.length, true⟩ (numsE x.l)).app (numE x.a)
  else if f = 6 ∨ f = 7 then (numE x.a).app (numE x.b)
  else if f = 8 then ((numE x.a).app (numE x.b)).app ⟨[x.lo % 256], decide (x.lo < 256)⟩
  else constE x f
def instrE (x : Instr) : E :=
  let i := instrOf x.op
  if !i.2 || !restOk x i.1.form then ⟨[], false⟩ else E.app ⟨opB x.op, true⟩ (argE x i.1.form)
/-- Do the blocks open and close as they must? -/
def closedGo : List Int → List Int → Bool
  | [], _ => false
  | op :: r, st =>
    if op = 2 ∨ op = 3 ∨ op = 4 then (if st.length = 128 then false else closedGo r (st ++ [op]))
    else if op = 5 then (if st.getLast? = some 4 then closedGo r (st.dropLast ++ [5]) else false)
    else if op = 11 then (if st = [] then r.isEmpty else closedGo r st.dropLast)
    else closedGo r st
def closedOk (l : List Instr) : Bool := closedGo (l.map (·.op)) []
def exprGo : List Instr → E
  | [] => E.nil
  | x :: r => if (instrE x).ok then (instrE x).app (exprGo r) else ⟨[], false⟩
/-- The bytes of an expression; none, if it can't be. -/
def writeE (l : List Instr) : E := if closedOk l && (E.cat (l.map instrE)).ok then E.cat (l.map instrE) else ⟨[], false⟩
/-- Room that an instruction may take. -/
def instrW (x : Instr) : Nat := 60 + 10 * x.l.length
def codeW (l : List Instr) : Nat := (l.map instrW).sum

theorem joinB_len (lo hi : Int) : (joinB lo hi).length = 16 := by simp [joinB]
theorem instrOf_form {op : Int} (h : (instrOf op).2 = true) : (1 ≤ (instrOf op).1.form ∧ (instrOf op).1.form ≤ 14) ∧ 0 ≤ op ∧ op ≤ 64991 := by
  have key : ∀ rows : List Row, (∀ r ∈ rows, (1 ≤ r.form ∧ r.form ≤ 14) ∧ 0 ≤ r.lo ∧ r.hi ≤ 64991) → (ofRows op rows).2 = true → (1 ≤ (ofRows op rows).1.form ∧ (ofRows op rows).1.form ≤ 14) ∧ 0 ≤ op ∧ op ≤ 64991 := by
    intro rows
    induction rows with
    | nil => intro _ h; simp [ofRows] at h
    | cons r rs ih =>
      intro hr h
      unfold ofRows at h ⊢
      by_cases hin : op < r.lo ∨ op > r.hi
      · rw [if_pos hin] at h ⊢; exact ih (fun x hx => hr x (List.mem_cons_of_mem _ hx)) h
      · rw [if_neg hin] at h ⊢
        obtain ⟨h1, h2, h3⟩ := hr r (List.mem_cons_self ..)
        exact ⟨h1, by omega, by omega⟩
  unfold instrOf at h ⊢
  split at h
  · rename_i hg; rw [if_pos hg]; exact key _ (by decide) h
  · rename_i hg; rw [if_neg hg]; exact key _ (by decide) h
end Go.Proofs.YtacjnpahlbibhaaDoor

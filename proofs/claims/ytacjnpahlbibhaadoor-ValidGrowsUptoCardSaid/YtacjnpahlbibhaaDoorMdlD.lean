/- Plain functions: the bytes of a module's parts. No program in sight. -/
import Derived.Test.YtacjnpahlbibhaaDoorMdlC
set_option linter.unusedVariables false
namespace Go.Proofs.YtacjnpahlbibhaaDoor

structure Sig where
  ins : List Int
  outs : List Int
deriving DecidableEq
structure Import where
  mod : ByteArray
  name : ByteArray
  type : Int
structure Limits where
  min : Int
  max : Int
deriving DecidableEq
structure Global where
  type : Int
  chg : Bool
  init : List Instr
structure Export where
  name : ByteArray
  kind : Int
  index : Int
structure Elem where
  offset : List Instr
  funcs : List Int
structure Code where
  locals : List Int
  body : List Instr
structure Data where
  offset : List Instr
  bytes : List Int
structure Module where
  types : List Sig
  imports : List Import
  funcs : List Int
  tables : List Limits
  mems : List Limits
  globals : List Global
  exports : List Export
  start : Int
  elems : List Elem
  codes : List Code
  datas : List Data
def isKind (t : Int) : Bool := ((t == 127) || (t == 126)) || (t == 123)
def kindE (t : Int) : E := ⟨[t % 256], isKind t⟩
def kindsE (l : List Int) : E := E.cat (l.map kindE)
def limE (mn mx most : Int) : E := E.app ⟨[], decide (mn ≤ most)⟩ (if mx = -1 then E.app ⟨[0], true⟩ (numE mn) else E.app ⟨[1], true⟩ ((numE mn).app (numE mx)))
def sigE (x : Sig) : E :=
  ((((E.app ⟨[], decide ((x.ins.length : Int) ≤ 32) && decide ((x.outs.length : Int) ≤ 32)⟩ ⟨[96], true⟩).app (numE x.ins.length)).app (kindsE x.ins)).app (numE x.outs.length)).app (kindsE x.outs)
def tableE (x : Limits) : E := E.app ⟨[112], true⟩ (limE x.min x.max 1024)
def memE (x : Limits) : E := limE x.min x.max 16
def globalE (x : Global) : E := ((kindsE [x.type]).app ⟨[if x.chg then 1 else 0], true⟩).app (writeE x.init)
def elemE (x : Elem) : E :=
  (((E.app ⟨[], decide ((x.funcs.length : Int) ≤ 1024)⟩ ⟨[0], true⟩).app (writeE x.offset)).app (numE x.funcs.length)).app (numsE x.funcs)
def dataE (x : Data) : E := ((E.app ⟨[0], true⟩ (writeE x.offset)).app (numE x.bytes.length)).app ⟨x.bytes, true⟩
def sigW (x : Sig) : Nat := 60 + 10 * (x.ins.length + x.outs.length)
def globalW (x : Global) : Nat := 60 + codeW x.init
def elemW (x : Elem) : Nat := 60 + codeW x.offset + 10 * x.funcs.length
def dataW (x : Data) : Nat := 60 + codeW x.offset + x.bytes.length
/-- A row of parts, if it isn't empty. -/
def secE {α : Type} (id most : Int) (one : α → E) (xs : List α) : E :=
  E.app ⟨[], decide ((xs.length : Int) ≤ most)⟩ (if xs.isEmpty then E.nil else
    (E.app ⟨[], ((numE xs.length).app (E.cat (xs.map one))).ok⟩ ⟨[id], true⟩).app ((numE ((numE xs.length).app (E.cat (xs.map one))).b.length).app ⟨((numE xs.length).app (E.cat (xs.map one))).b, true⟩))
def putE (id : Int) (xs : List Int) (bad : Bool) : E := (E.app ⟨[], !bad⟩ ⟨[id], true⟩).app ((numE xs.length).app ⟨xs, true⟩)
theorem secE_ok {α : Type} (id most : Int) (one : α → E) (xs : List α) (hne : xs.isEmpty = false) (bad : Bool) :
    (bad || !((E.nil.app ⟨[], decide ((xs.length : Int) ≤ most)⟩).app ⟨(putE id ([] ++ ((numE xs.length).app (E.cat (xs.map one))).b) ((bad || !(E.nil.app ⟨[], decide ((xs.length : Int) ≤ most)⟩).ok) || !((numE xs.length).app (E.cat (xs.map one))).ok)).b, (putE id ([] ++ ((numE xs.length).app (E.cat (xs.map one))).b) ((bad || !(E.nil.app ⟨[], decide ((xs.length : Int) ≤ most)⟩).ok) || !((numE xs.length).app (E.cat (xs.map one))).ok)).ok⟩).ok) = (bad || !(secE id most one xs).ok) := by
  unfold secE
  simp only [hne, putE, E.app, E.nil, List.nil_append]
  generalize decide ((xs.length : Int) ≤ most) = le
  generalize (numE xs.length).ok = a
  generalize (E.cat (xs.map one)).ok = b
  generalize (numE _).ok = c
  cases bad <;> cases le <;> cases a <;> cases b <;> cases c <;> rfl
end Go.Proofs.YtacjnpahlbibhaaDoor

/- ValidGrows: room of the grown modules; how they read. -/
import Derived.Test.YtacjnpahlbibhaaDoorGrF
set_option linter.unusedVariables false
set_option linter.unusedSimpArgs false
set_option maxRecDepth 100000
namespace Go.Proofs.YtacjnpahlbibhaaDoor
open Go Go.RowKit

/-- A module that takes little room. -/
def Tight (m : Module) : Prop :=
  1000 + msum sigW m.types + msum importW m.imports + msum (fun _ => 10) m.funcs + msum (fun _ => 60) m.tables + msum (fun _ => 60) m.mems + msum globalW m.globals + msum exportW m.exports + msum elemW m.elems + msum fcodeW m.codes + msum dataW m.datas ≤ 110000000
theorem msum_app {α : Type} (wt : α → Nat) (a b : List α) : msum wt (a ++ b) = msum wt a + msum wt b := by unfold msum; rw [List.map_append, List.sum_append]
theorem msum_in {α : Type} {wt : α → Nat} {x : α} {l : List α} (h : x ∈ l) : wt x ≤ msum wt l := by
  obtain ⟨a, b, rfl⟩ := List.append_of_mem h
  rw [msum_app]; unfold msum; rw [List.map_cons, List.sum_cons]; omega
theorem msum_set {α : Type} (wt : α → Nat) (y : α) : ∀ (l : List α) (i : Nat), msum wt (l.set i y) ≤ msum wt l + wt y := by
  intro l
  induction l with
  | nil => intro i; simp [msum]
  | cons x r ih =>
    intro i
    unfold msum at ih ⊢
    cases i with
    | zero => rw [List.set_cons_zero, List.map_cons, List.map_cons, List.sum_cons, List.sum_cons]; omega
    | succ i => rw [List.set_cons_succ, List.map_cons, List.map_cons, List.sum_cons, List.sum_cons]; have := ih i; omega
theorem codeW_pre (x1 x2 : Instr) (l : List Instr) : codeW (x1 :: x2 :: l) = instrW x1 + instrW x2 + codeW l := by
  unfold codeW; rw [List.map_cons, List.map_cons, List.sum_cons, List.sum_cons]; omega
theorem body_le {m : Module} (h : Tight m) {i : Nat} (hi : i < m.codes.length) : 100 + 11 * m.codes[i].locals.length + codeW m.codes[i].body ≤ 110000000 := by
  have := msum_in (wt := fcodeW) (List.getElem_mem hi)
  unfold Tight at h
  unfold fcodeW at h this
  omega
theorem codeW_len60 (l : List Instr) : 60 * l.length ≤ codeW l := by
  unfold codeW
  induction l with
  | nil => simp
  | cons x r ih => rw [List.map_cons, List.sum_cons, List.length_cons]; unfold instrW at ih ⊢; omega
theorem grown_room {m : Module} (h : Tight m) (hw : ModW m) (ht : m.types.length < 256) (hg : m.globals.length < 512) {i : Nat} {c : Code} (hc : fcodeW c ≤ 120000000) : ModW (grown m i c) where
  room := by
    have h1 := msum_set fcodeW c m.codes i
    have h2 : msum sigW [sNew] = 70 := by decide
    have h3 : msum globalW [gNew] = 180 := by decide
    unfold Tight at h
    show 1000 + msum sigW (m.types ++ [sNew]) + msum importW m.imports + msum (fun _ => 10) m.funcs + msum (fun _ => 60) m.tables + msum (fun _ => 60) m.mems + msum globalW (m.globals ++ [gNew]) + msum exportW m.exports + msum elemW m.elems + msum fcodeW (m.codes.set i c) + msum dataW m.datas ≤ big
    rw [msum_app, msum_app, h2, h3]
    unfold big
    omega
  types := by show (m.types ++ [sNew]).length ≤ _; rw [List.length_append, List.length_singleton]; omega
  imports := hw.imports
  funcs := hw.funcs
  tables := hw.tables
  mems := hw.mems
  globals := by show (m.globals ++ [gNew]).length ≤ _; rw [List.length_append, List.length_singleton]; omega
  exports := hw.exports
  elems := hw.elems
  codes := by show (m.codes.set i c).length ≤ _; rw [List.length_set]; exact hw.codes
  datas := hw.datas
theorem grown_small {m : Module} (hs : Small m) {i : Nat} {c : Code} (hc : codeW c.body ≤ 1073741824) : Small (grown m i c) := by
  intro x hx
  rcases List.mem_or_eq_of_mem_set (show x ∈ m.codes.set i c from hx) with hx | rfl
  · exact hs x hx
  · exact hc
theorem pre_room {m : Module} (h : Tight m) {i : Nat} (hi : i < m.codes.length) (x1 x2 : Instr) (h1 : x1.l = []) (h2 : x2.l = []) : fcodeW (preC x1 x2 m.codes[i]) ≤ 120000000 ∧ codeW (preC x1 x2 m.codes[i]).body ≤ 1073741824 := by
  have hb := body_le h hi
  have hp := codeW_pre x1 x2 m.codes[i].body
  have e1 : instrW x1 = 60 := by unfold instrW; rw [h1]; rfl
  have e2 : instrW x2 = 60 := by unfold instrW; rw [h2]; rfl
  unfold fcodeW preC
  simp only
  omega
theorem grown_read {rd : Rd} {S : MSl} {T G C : Sl} {m : Module} {i : Nat} {c : Code} (hm : ModR rd S m) (hT : SlOf 2 SigR rd T (m.types ++ [sNew])) (hG : SlOf 3 GlobalR rd G (m.globals ++ [gNew])) (hC : SlOf 2 FCodeR rd C (m.codes.set i c)) :
    ModR rd { S with types := T, globals := G, codes := C } (grown m i c) :=
  { hm with types := hT, globals := hG, codes := hC }
/-- The function's number. -/
theorem index_of {f : Int} {n : Nat} (h0 : n ≠ 0) (hn : n ≤ 1099511627776) : ∃ i : Nat, i < n ∧ IntKind.wrap .i64 (Int.tmod (IntKind.wrap .u64 f) (IntKind.wrap .u64 (n : Int))) = (i : Int) := by
  have e : IntKind.wrap .u64 (n : Int) = (n : Int) := by rw [wrap_u64]; omega
  have hp : 0 ≤ IntKind.wrap .u64 f := by rw [wrap_u64]; omega
  rw [e, Int.tmod_eq_emod_of_nonneg hp]
  have h1 := Int.emod_nonneg (IntKind.wrap .u64 f) (show (n : Int) ≠ 0 by omega)
  have h2 := Int.emod_lt_of_pos (IntKind.wrap .u64 f) (show (0 : Int) < n by omega)
  refine ⟨(IntKind.wrap .u64 f % (n : Int)).toNat, by omega, ?_⟩
  rw [wrap_id (by omega) (by omega)]
  omega
end Go.Proofs.YtacjnpahlbibhaaDoor

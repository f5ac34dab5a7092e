/- Contracts: expr.number, rest, pair.Join. -/
import Derived.Test.YtacjnpahlbibhaaDoorExB
set_option linter.unusedVariables false
set_option linter.unusedSimpArgs false
set_option maxRecDepth 100000
namespace Go.Proofs.YtacjnpahlbibhaaDoor
open Go Go.RowKit

theorem Br_true {A B : Prop} : Br true A B = A := propext ⟨fun h => h.1 rfl, Br.t⟩
theorem Br_false {A B : Prop} : Br false A B = B := propext ⟨fun h => h.2 rfl, Br.f⟩
theorem number_spec (W : World) (n : Int) : Calls Tryd.prog f_expr_number #[.int .i64 n] W fun e W' => e = .returned (.bool (isNum n)) ∧ W' = W := by
  refine of_expr_number _ _ _ ?_
  unfold V_expr_number
  exact ⟨rfl, rfl⟩
def InstrV (x : Instr) (s : Sl) : Value := .agg #[.int .i64 x.op, .int .i64 x.a, .int .i64 x.b, .int .u64 x.lo, .int .u64 x.hi, s.v]
abbrev instrC (x : Instr) (s : Sl) : Array Value := #[.int .i64 x.op, .int .i64 x.a, .int .i64 x.b, .int .u64 x.lo, .int .u64 x.hi, s.v]
theorem rest_spec (W : World) (x : Instr) (s : Sl) (hs : s.len = x.l.length) (f : Int) (hf : 1 ≤ f ∧ f ≤ 14) :
    Calls Tryd.prog f_expr_rest #[InstrV x s, .int .i64 f] W fun e W' => e = .returned (.bool (restOk x f)) ∧ Mod NoB W W' := by
  refine of_expr_rest _ _ _ _ _ _ _ _ _ ?_
  unfold V_expr_rest
  refine Na.mk fun b W1 hb hm hs1 hc => ?_
  refine ⟨s, fun _ => cell_of_heap hc rfl, ?_⟩
  rw [hs]
  unfold restOk
  by_cases h4 : f ≠ 4 ∧ 0 < x.l.length
  · rw [if_pos h4]
    have : (((f : Int) != 4) && (decide (((x.l.length : Int) : Int) > 0))) = true := by simp; omega
    rw [this, Br_true]
    exact ⟨rfl, hm⟩
  · rw [if_neg h4]
    have : (((f : Int) != 4) && (decide (((x.l.length : Int) : Int) > 0))) = false := by
      rw [Bool.and_eq_false_iff]
      by_cases h : f = 4
      · left; subst h; rfl
      · right; exact decide_eq_false (fun h' => h4 ⟨h, by omega⟩)
    rw [this, Br_false]
    refine Dw.mk fun W2 hm2 hh2 => ?_
    have hc2 := hm2.heap hc (fun h => h)
    refine ⟨x.a, cell_of_heap hc2 rfl, x.b, cell_of_heap hc2 rfl, x.lo, cell_of_heap hc2 rfl, x.hi, cell_of_heap hc2 rfl, ?_⟩
    have hm12 := hm.trans0 hm2
    have hcase : f = 1 ∨ f = 2 ∨ f = 3 ∨ f = 4 ∨ f = 5 ∨ f = 6 ∨ f = 7 ∨ f = 8 ∨ f = 9 ∨ f = 10 ∨ f = 11 ∨ f = 12 ∨ f = 13 ∨ f = 14 := by omega
    rcases hcase with rfl | rfl | rfl | rfl | rfl | rfl | rfl | rfl | rfl | rfl | rfl | rfl | rfl | rfl <;>
      (simp only [Br_true, Br_false, show ((1 : Int) == 2) = false from rfl, useA, useB, useLo, useHi, Int.reduceBEq, Int.reduceEq, decide_true, decide_false, or_true, true_or, or_false, false_or, Bool.true_or, Bool.false_or]
       intro J hJ J1 hJ1
       refine hJ1 _ _ ?_
       first
         | (simp only [Br_true]; exact hJ _ _ _ _ _ ⟨by simp [Bool.and_assoc], hm12⟩)
         | (simp only [Br_false]
            intro J2 hJ2
            refine hJ2 _ _ ?_
            first
              | (simp only [Br_true]; exact hJ _ _ _ _ _ ⟨by simp [Bool.and_assoc], hm12⟩)
              | (simp only [Br_false]; exact hJ _ _ _ _ _ ⟨by simp [Bool.and_assoc], hm12⟩)))
end Go.Proofs.YtacjnpahlbibhaaDoor

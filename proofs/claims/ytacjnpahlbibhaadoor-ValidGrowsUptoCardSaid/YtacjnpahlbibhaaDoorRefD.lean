import Derived.Test.YtacjnpahlbibhaaDoorWkS
import Derived.Laws.StructEq
import Derived.WalkKit
import Derived.Laws.BytesArg
section
/- Contracts: structs that are compared; the reference's SameTypes, SameSig, sameLimits, SameInstr, Same of codes (of two that read the same). -/
set_option linter.unusedVariables false
set_option linter.unusedSimpArgs false
set_option maxRecDepth 100000
namespace Go.Proofs.YtacjnpahlbibhaaDoor
open Go Go.RowKit

theorem neq_run {t : TypeId} {x y : Operand} {xs ys : Array Value} {W : World} {b : Bool} (hm : Tryd.prog.eqGuardType Tryd.prog.depth t = false) (he : (Op.equalIn 10000 t (.agg xs) (.agg ys)).run Tryd.prog W = .ok b W) {K : Value → World → Prop} (hk : K (.bool (!b)) W) :
    RunV Tryd.prog (do eqGuard .neq t x y (.agg xs) (.agg ys); binOp .neq t (.agg xs) (.agg ys)) W K := by
  unfold RunV
  simp only [Sem.run_bind, run_eqGuard_agg W .neq t x y xs ys hm, Result.andThen_ok, run_neq_struct W t xs ys, he]
  exact hk
theorem eq_limits (a b c d : Int) (w : World) : (Op.equalIn 10000 87 (.agg #[.int .i64 a, .int .i64 b]) (.agg #[.int .i64 c, .int .i64 d])).run Tryd.prog w = .ok (a == c && b == d) w := by
  have u3 := Tryd.underlying3
  have a3 := Tryd.isAgg3
  have z3 := Tryd.sizeOf3
  have hS : Tryd.prog.underlying 87 = some (.struct (Tryd.prog.fieldsOf 87)) := by kernel_rfl
  rw [show (10000 : Nat) = 9999 + 1 from rfl, run_equalIn_agg w 9999 87 _ _ hS (by kernel_rfl)]
  simp only [Program.fieldsOf, Tryd.underlying87]
  go_simp
  by_cases h1 : a = c <;> by_cases h2 : b = d <;> simp [h1, h2]
theorem eq_mark (a : Bool) (b c : Int) (a' : Bool) (b' c' : Int) (w : World) : (Op.equalIn 10000 56 (.agg #[.bool a, .int .i64 b, .int .i64 c]) (.agg #[.bool a', .int .i64 b', .int .i64 c'])).run Tryd.prog w = .ok ((a == a' && b == b') && c == c') w := by
  have u3 := Tryd.underlying3
  have a3 := Tryd.isAgg3
  have z3 := Tryd.sizeOf3
  have u4 := Tryd.underlying4
  have a4 := Tryd.isAgg4
  have z4 := Tryd.sizeOf4
  have hS : Tryd.prog.underlying 56 = some (.struct (Tryd.prog.fieldsOf 56)) := by kernel_rfl
  rw [show (10000 : Nat) = 9999 + 1 from rfl, run_equalIn_agg w 9999 56 _ _ hS (by kernel_rfl)]
  simp only [Program.fieldsOf, Tryd.underlying56]
  go_simp
  by_cases h1 : a = a' <;> by_cases h2 : b = b' <;> by_cases h3 : c = c' <;> simp [h1, h2, h3]
theorem eq_import (a b : ByteArray) (c : Int) (a' b' : ByteArray) (c' : Int) (w : World) : (Op.equalIn 10000 66 (.agg #[.string a, .string b, .int .i64 c]) (.agg #[.string a', .string b', .int .i64 c'])).run Tryd.prog w = .ok ((a.toList == a'.toList && b.toList == b'.toList) && c == c') w := by
  have u3 := Tryd.underlying3
  have a3 := Tryd.isAgg3
  have z3 := Tryd.sizeOf3
  have u9 := Tryd.underlying9
  have a9 := Tryd.isAgg9
  have z9 := Tryd.sizeOf9
  have hS : Tryd.prog.underlying 66 = some (.struct (Tryd.prog.fieldsOf 66)) := by kernel_rfl
  rw [show (10000 : Nat) = 9999 + 1 from rfl, run_equalIn_agg w 9999 66 _ _ hS (by kernel_rfl)]
  simp only [Program.fieldsOf, Tryd.underlying66]
  go_simp
  by_cases h1 : a.toList = a'.toList <;> by_cases h2 : b.toList = b'.toList <;> by_cases h3 : c = c' <;> simp [h1, h2, h3]
theorem eq_export (a : ByteArray) (b c : Int) (a' : ByteArray) (b' c' : Int) (w : World) : (Op.equalIn 10000 71 (.agg #[.string a, .int .i64 b, .int .i64 c]) (.agg #[.string a', .int .i64 b', .int .i64 c'])).run Tryd.prog w = .ok ((a.toList == a'.toList && b == b') && c == c') w := by
  have u3 := Tryd.underlying3
  have a3 := Tryd.isAgg3
  have z3 := Tryd.sizeOf3
  have u9 := Tryd.underlying9
  have a9 := Tryd.isAgg9
  have z9 := Tryd.sizeOf9
  have hS : Tryd.prog.underlying 71 = some (.struct (Tryd.prog.fieldsOf 71)) := by kernel_rfl
  rw [show (10000 : Nat) = 9999 + 1 from rfl, run_equalIn_agg w 9999 71 _ _ hS (by kernel_rfl)]
  simp only [Program.fieldsOf, Tryd.underlying71]
  go_simp
  by_cases h1 : a.toList = a'.toList <;> by_cases h2 : b = b' <;> by_cases h3 : c = c' <;> simp [h1, h2, h3]
end Go.Proofs.YtacjnpahlbibhaaDoor
end
section
/- Contracts: the reference's SameTypes, SameSig, sameLimits, SameInstr, Same of codes; the law's same. -/
set_option linter.unusedVariables false
set_option linter.unusedSimpArgs false
set_option maxRecDepth 100000
namespace Go.Proofs.YtacjnpahlbibhaaDoor
open Go Go.RowKit

theorem SameTypes_spec {W : World} {r : Rd} (hr : Sub r W) {s t : Sl} {xs ys : List Int} (hx : Ints r s xs) (hy : Ints r t ys) (hl : xs.length ≤ big) :
    Calls Tryd.prog f_plaitref04_SameTypes #[s.v, t.v] W fun e W' => e = .returned (.bool (decide (xs = ys))) ∧ Mod NoB W W' := by
  refine of_plaitref04_SameTypes _ _ _ _ ?_
  unfold V_plaitref04_SameTypes
  unfold big at hl
  refine Br.ne (fun hne => ⟨?_, Mod.refl _ _⟩) (fun heq => ?_)
  · rw [decide_eq_false (fun e => hne (by rw [hx.1, hy.1, e]))]
  · have hlen : xs.length = ys.length := by have := hx.1; have := hy.1; omega
    intro L hL
    have key : ∀ (n k : Nat) (W1 : World), n = xs.length - k → k ≤ xs.length → (∀ i, i < k → xs[i]? = ys[i]?) → Mod NoB W W1 → L (k : Int) W1 := by
      intro n
      induction n with
      | zero =>
        intro k W1 hn hk hall hm
        refine hL _ _ (Br.dec (fun h => by rw [hx.1] at h; omega) (fun _ => ⟨?_, hm⟩))
        rw [decide_eq_true]
        apply List.ext_getElem?
        intro i
        by_cases hi : i < k
        · exact hall i hi
        · rw [List.getElem?_eq_none (by omega), List.getElem?_eq_none (by omega)]
      | succ n ih =>
        intro k W1 hn hk hall hm
        have hlt : k < xs.length := by omega
        refine hL _ _ (Br.dec (fun _ => ?_) (fun hge => absurd (by rw [hx.1]; omega) hge))
        refine Dw.mk fun W2 hm2 _ => ?_
        obtain ⟨q, hq, hc⟩ := hx.get hlt
        obtain ⟨p, hp, hd⟩ := hy.get (show k < ys.length by omega)
        have hs := (hr.mod0 hm).mod0 hm2
        refine ⟨q, ⟨hq, by omega, by rw [hx.1]; omega⟩, _, hs _ _ hc, p, ⟨hp, by omega, by rw [hy.1]; omega⟩, _, hs _ _ hd, Br.ne (fun hne => ⟨?_, hm.trans0 hm2⟩) (fun he => ?_)⟩
        · rw [decide_eq_false (fun e => hne (by subst e; rfl))]
        · rw [wrap_id (by omega) (by omega)]
          refine ih (k + 1) W2 (by omega) hlt (fun i hi => ?_) (hm.trans0 hm2)
          by_cases hik : i = k
          · subst hik; rw [List.getElem?_eq_getElem hlt, List.getElem?_eq_getElem (by omega), he]
          · exact hall i (by omega)
    exact key xs.length 0 W (by omega) (by omega) (fun i hi => by omega) (Mod.refl _ _)
theorem SameSig_spec {W : World} {r : Rd} (hr : Sub r W) {s0 s1 t0 t1 : Sl} {a0 a1 b0 b1 : List Int} (h0 : Ints r s0 a0) (h1 : Ints r s1 a1) (g0 : Ints r t0 b0) (g1 : Ints r t1 b1) (l0 : a0.length ≤ big) (l1 : a1.length ≤ big) :
    Calls Tryd.prog f_plaitref13_SameSig #[.agg #[s0.v, s1.v], .agg #[t0.v, t1.v]] W fun e W' => e = .returned (.bool (decide (a0 = b0) && decide (a1 = b1))) ∧ Mod NoB W W' := by
  refine of_plaitref13_SameSig _ _ _ _ _ _ ?_
  unfold V_plaitref13_SameSig
  refine Na.mk fun b2 W1 hb2 hm1 hz1 hc1 => ?_
  refine Na.mk fun b3 W2 hb3 hm2 hz2 hc2 => ?_
  have hm02 := hm1.trans0 hm2
  have c1 := hm2.heap hc1 (fun h => h)
  refine ⟨s0, cell_of_heap c1 rfl, t0, cell_of_heap hc2 rfl, ?_⟩
  refine CallV.mk ent_plaitref04_SameTypes (SameTypes_spec (hr.mod0 hm02) h0 g0 l0) ?_
  rintro e W3 ⟨rfl, hm3⟩
  refine ⟨_, rfl, _, rfl, s1, fun _ => cell_of_heap (hm3.heap c1 (fun h => h)) rfl, t1, fun _ => cell_of_heap (hm3.heap hc2 (fun h => h)) rfl, fun ht => ?_, fun hf => ⟨?_, hm02.trans0 hm3⟩⟩
  · refine CallV.mk ent_plaitref04_SameTypes (SameTypes_spec ((hr.mod0 hm02).mod0 hm3) h1 g1 l1) ?_
    rintro e W4 ⟨rfl, hm4⟩
    refine ⟨_, rfl, _, rfl, ?_, (hm02.trans0 hm3).trans0 hm4⟩
    rw [ht, Bool.true_and]
  · rw [show decide (a0 = b0) = false from hf, Bool.false_and]
theorem sameLimits_spec {W : World} {r : Rd} (hr : Sub r W) {s t : Sl} {xs ys : List Limits} (hx : SlOf 2 LimitsR r s xs) (hy : SlOf 2 LimitsR r t ys) (hl : xs.length ≤ big) :
    Calls Tryd.prog f_plaitref13_sameLimits #[s.v, t.v] W fun e W' => e = .returned (.bool (decide (xs = ys))) ∧ Mod NoB W W' := by
  refine of_plaitref13_sameLimits _ _ _ _ ?_
  unfold V_plaitref13_sameLimits
  unfold big at hl
  refine Br.ne (fun hne => ⟨?_, Mod.refl _ _⟩) (fun heq => ?_)
  · rw [decide_eq_false (fun e => hne (by rw [hx.1, hy.1, e]))]
  · have hlen : xs.length = ys.length := by have := hx.1; have := hy.1; omega
    intro L hL
    have key : ∀ (n k : Nat) (W1 : World), n = xs.length - k → k ≤ xs.length → (∀ i, i < k → xs[i]? = ys[i]?) → Mod NoB W W1 → L (k : Int) W1 := by
      intro n
      induction n with
      | zero =>
        intro k W1 hn hk hall hm
        refine hL _ _ (Br.dec (fun h => by rw [hx.1] at h; omega) (fun _ => ⟨?_, hm⟩))
        rw [decide_eq_true]
        apply List.ext_getElem?
        intro i
        by_cases hi : i < k
        · exact hall i hi
        · rw [List.getElem?_eq_none (by omega), List.getElem?_eq_none (by omega)]
      | succ n ih =>
        intro k W1 hn hk hall hm
        have hlt : k < xs.length := by omega
        refine hL _ _ (Br.dec (fun _ => ?_) (fun hge => absurd (by rw [hx.1]; omega) hge))
        refine Dw.mk fun W2 hm2 _ => ?_
        obtain ⟨q, hq, hc0, hc1⟩ := hx.get hlt
        obtain ⟨p, hp, hd0, hd1⟩ := hy.get (show k < ys.length by omega)
        have hs := (hr.mod0 hm).mod0 hm2
        refine ⟨q, ⟨hq, by omega, by rw [hx.1]; omega⟩, _, hs _ _ hc0, _, hs _ _ hc1, p, ⟨hp, by omega, by rw [hy.1]; omega⟩, _, hs _ _ hd0, _, hs _ _ hd1, ?_⟩
        refine neq_run (by kernel_rfl) (eq_limits _ _ _ _ _) ?_
        have hbe : ((xs[k].min == ys[k].min) && (xs[k].max == ys[k].max)) = decide (xs[k] = ys[k]) := by
          rw [Bool.eq_iff_iff, Bool.and_eq_true, beq_iff_eq, beq_iff_eq, decide_eq_true_eq]
          constructor
          · rintro ⟨h1, h2⟩
            cases hxk : xs[k]; cases hyk : ys[k]
            rw [hxk, hyk] at h1 h2
            simp only at h1 h2
            rw [h1, h2]
          · intro h; rw [h]; exact ⟨rfl, rfl⟩
        rw [hbe]
        refine Br.mk (fun hb => ⟨?_, hm.trans0 hm2⟩) (fun hb => ?_)
        · rw [decide_eq_false (fun e => by subst e; simp at hb)]
        · have he : xs[k] = ys[k] := by simpa using hb
          rw [wrap_id (by omega) (by omega)]
          refine ih (k + 1) W2 (by omega) hlt (fun i hi => ?_) (hm.trans0 hm2)
          by_cases hik : i = k
          · subst hik; rw [List.getElem?_eq_getElem hlt, List.getElem?_eq_getElem (by omega), he]
          · exact hall i (by omega)
    exact key xs.length 0 W (by omega) (by omega) (fun i hi => by omega) (Mod.refl _ _)
def MarkR (r : Rd) (q : Addr) (x : Mark) : Prop := r (q.add 0) = some (.bool x.live) ∧ r (q.add 1) = some (.int .i64 x.height) ∧ r (q.add 2) = some (.int .i64 x.vecs)
theorem same_spec {W : World} {r : Rd} (hr : Sub r W) {s t : Sl} {xs ys : List Mark} (hx : SlOf 3 MarkR r s xs) (hy : SlOf 3 MarkR r t ys) (hl : xs.length ≤ big) :
    Calls Tryd.prog f_plaitlaw15_same #[s.v, t.v] W fun e W' => e = .returned (.bool (decide (xs = ys))) ∧ Mod NoB W W' := by
  refine of_plaitlaw15_same _ _ _ _ ?_
  unfold V_plaitlaw15_same
  unfold big at hl
  refine Br.ne (fun hne => ⟨?_, Mod.refl _ _⟩) (fun heq => ?_)
  · rw [decide_eq_false (fun e => hne (by rw [hx.1, hy.1, e]))]
  · have hlen : xs.length = ys.length := by have := hx.1; have := hy.1; omega
    intro L hL
    have key : ∀ (n k : Nat) (W1 : World), n = xs.length - k → k ≤ xs.length → (∀ i, i < k → xs[i]? = ys[i]?) → Mod NoB W W1 → L (k : Int) W1 := by
      intro n
      induction n with
      | zero =>
        intro k W1 hn hk hall hm
        refine hL _ _ (Br.dec (fun h => by rw [hx.1] at h; omega) (fun _ => ⟨?_, hm⟩))
        rw [decide_eq_true]
        apply List.ext_getElem?
        intro i
        by_cases hi : i < k
        · exact hall i hi
        · rw [List.getElem?_eq_none (by omega), List.getElem?_eq_none (by omega)]
      | succ n ih =>
        intro k W1 hn hk hall hm
        have hlt : k < xs.length := by omega
        refine hL _ _ (Br.dec (fun _ => ?_) (fun hge => absurd (by rw [hx.1]; omega) hge))
        refine Dw.mk fun W2 hm2 _ => ?_
        obtain ⟨q, hq, hc0, hc1, hc2⟩ := hx.get hlt
        obtain ⟨p, hp, hd0, hd1, hd2⟩ := hy.get (show k < ys.length by omega)
        have hs := (hr.mod0 hm).mod0 hm2
        refine ⟨q, ⟨hq, by omega, by rw [hx.1]; omega⟩, _, hs _ _ hc0, _, hs _ _ hc1, _, hs _ _ hc2, p, ⟨hp, by omega, by rw [hy.1]; omega⟩, _, hs _ _ hd0, _, hs _ _ hd1, _, hs _ _ hd2, ?_⟩
        refine neq_run (by kernel_rfl) (eq_mark _ _ _ _ _ _ _) ?_
        have hbe : (((xs[k].live == ys[k].live) && (xs[k].height == ys[k].height)) && (xs[k].vecs == ys[k].vecs)) = decide (xs[k] = ys[k]) := by
          rw [Bool.eq_iff_iff, Bool.and_eq_true, Bool.and_eq_true, beq_iff_eq, beq_iff_eq, beq_iff_eq, decide_eq_true_eq]
          constructor
          · rintro ⟨⟨h1, h2⟩, h3⟩
            cases hxk : xs[k]; cases hyk : ys[k]
            rw [hxk, hyk] at h1 h2 h3
            simp only at h1 h2 h3
            rw [h1, h2, h3]
          · intro h; rw [h]; exact ⟨⟨rfl, rfl⟩, rfl⟩
        rw [hbe]
        refine Br.mk (fun hb => ⟨?_, hm.trans0 hm2⟩) (fun hb => ?_)
        · rw [decide_eq_false (fun e => by subst e; simp at hb)]
        · have he : xs[k] = ys[k] := by simpa using hb
          rw [wrap_id (by omega) (by omega)]
          refine ih (k + 1) W2 (by omega) hlt (fun i hi => ?_) (hm.trans0 hm2)
          by_cases hik : i = k
          · subst hik; rw [List.getElem?_eq_getElem hlt, List.getElem?_eq_getElem (by omega), he]
          · exact hall i (by omega)
    exact key xs.length 0 W (by omega) (by omega) (fun i hi => by omega) (Mod.refl _ _)
theorem SameInstr_spec {W : World} {r : Rd} (hr : Sub r W) (x y : Instr) {sx sy : Sl} (hx : Ints r sx x.l) (hy : Ints r sy y.l) (hl : x.l.length ≤ big) :
    Calls Tryd.prog f_plaitref12_SameInstr #[InsV x sx, InsV y sy] W fun e W' => e = .returned (.bool (decide (x = y))) ∧ Mod NoB W W' := by
  refine of_plaitref12_SameInstr _ _ _ _ _ _ _ _ _ _ _ _ _ _ ?_
  unfold V_plaitref12_SameInstr
  unfold big at hl
  refine Na.mk fun b2 W1 hb2 hm1 hz1 hc1 => ?_
  refine Na.mk fun b3 W2 hb3 hm2 hz2 hc2 => ?_
  have hm02 := hm1.trans0 hm2
  have c1 := hm2.heap hc1 (fun h => h)
  refine ⟨_, cell_of_heap c1 rfl, _, cell_of_heap hc2 rfl, _, fun _ => cell_of_heap c1 rfl, _, fun _ => cell_of_heap hc2 rfl, _, fun _ => cell_of_heap c1 rfl, _, fun _ => cell_of_heap hc2 rfl, _, fun _ => cell_of_heap c1 rfl, _, fun _ => cell_of_heap hc2 rfl, _, fun _ => cell_of_heap c1 rfl, _, fun _ => cell_of_heap hc2 rfl, sx, fun _ => cell_of_heap c1 rfl, sy, fun _ => cell_of_heap hc2 rfl, ?_⟩
  rw [hx.1, hy.1]
  refine Br.mk (fun hb => ⟨?_, hm02⟩) (fun hb => ?_)
  · rw [decide_eq_false (fun e => by subst e; simp at hb)]
  · simp only [Bool.or_eq_false_iff, bne_eq_false_iff_eq] at hb
    obtain ⟨⟨⟨⟨⟨e1, e2⟩, e3⟩, e4⟩, e5⟩, e6⟩ := hb
    have hlen : x.l.length = y.l.length := by omega
    have hxy : x.l = y.l ↔ x = y := by
      constructor
      · intro h; cases x; cases y; simp only at *; subst e1 e2 e3 e4 e5 h; rfl
      · intro h; rw [h]
    intro L hL
    have key : ∀ (n k : Nat) (W3 : World), n = x.l.length - k → k ≤ x.l.length → (∀ i, i < k → x.l[i]? = y.l[i]?) → Mod NoB W2 W3 → L (k : Int) W3 := by
      intro n
      induction n with
      | zero =>
        intro k W3 hn hk hall hm
        refine hL _ _ ⟨sx, cell_of_heap (hm.heap c1 (fun h => h)) rfl, ?_⟩
        rw [hx.1]
        refine Br.dec (fun h => by omega) (fun _ => ⟨?_, hm02.trans0 hm⟩)
        rw [decide_eq_true]
        rw [← hxy]
        apply List.ext_getElem?
        intro i
        by_cases hi : i < k
        · exact hall i hi
        · rw [List.getElem?_eq_none (by omega), List.getElem?_eq_none (by omega)]
      | succ n ih =>
        intro k W3 hn hk hall hm
        have hlt : k < x.l.length := by omega
        refine hL _ _ ⟨sx, cell_of_heap (hm.heap c1 (fun h => h)) rfl, ?_⟩
        rw [hx.1]
        refine Br.dec (fun _ => ?_) (fun hge => absurd (by omega) hge)
        refine Dw.mk fun W4 hm4 _ => ?_
        have hm24 := hm.trans0 hm4
        obtain ⟨q, hq, hc⟩ := hx.get hlt
        obtain ⟨p, hp, hd⟩ := hy.get (show k < y.l.length by omega)
        have hs := (hr.mod0 hm02).mod0 hm24
        refine ⟨sx, cell_of_heap (hm24.heap c1 (fun h => h)) rfl, q, ⟨hq, by omega, by rw [hx.1]; omega⟩, _, hs _ _ hc, sy, cell_of_heap (hm24.heap hc2 (fun h => h)) rfl, p, ⟨hp, by omega, by rw [hy.1]; omega⟩, _, hs _ _ hd, Br.ne (fun hne => ⟨?_, hm02.trans0 hm24⟩) (fun he => ?_)⟩
        · rw [decide_eq_false (fun e => hne (by subst e; rfl))]
        · rw [wrap_id (by omega) (by omega)]
          refine ih (k + 1) W4 (by omega) hlt (fun i hi => ?_) hm24
          by_cases hik : i = k
          · subst hik; rw [List.getElem?_eq_getElem hlt, List.getElem?_eq_getElem (by omega), he]
          · exact hall i (by omega)
    exact key x.l.length 0 W2 (by omega) (by omega) (fun i hi => by omega) (Mod.refl _ _)
theorem SameCode_spec {W : World} {r : Rd} (hr : Sub r W) {s t : Sl} {xs ys : List Instr} (hx : CodeR r s xs) (hy : CodeR r t ys) (hl : codeW xs ≤ big) :
    Calls Tryd.prog f_plaitref12_Same #[s.v, t.v] W fun e W' => e = .returned (.bool (decide (xs = ys))) ∧ Mod NoB W W' := by
  refine of_plaitref12_Same _ _ _ _ ?_
  unfold V_plaitref12_Same
  have hcl := codeW_len xs
  have hbig := hl
  unfold big at hl
  refine Br.ne (fun hne => ⟨?_, Mod.refl _ _⟩) (fun heq => ?_)
  · rw [decide_eq_false (fun e => hne (by rw [hx.1, hy.1, e]))]
  · have hlen : xs.length = ys.length := by have := hx.1; have := hy.1; omega
    intro L hL
    have key : ∀ (n k : Nat) (W1 : World), n = xs.length - k → k ≤ xs.length → (∀ i, i < k → xs[i]? = ys[i]?) → Mod NoB W W1 → L (k : Int) W1 := by
      intro n
      induction n with
      | zero =>
        intro k W1 hn hk hall hm
        refine hL _ _ (Br.dec (fun h => by rw [hx.1] at h; omega) (fun _ => ⟨?_, hm⟩))
        rw [decide_eq_true]
        apply List.ext_getElem?
        intro i
        by_cases hi : i < k
        · exact hall i hi
        · rw [List.getElem?_eq_none (by omega), List.getElem?_eq_none (by omega)]
      | succ n ih =>
        intro k W1 hn hk hall hm
        have hlt : k < xs.length := by omega
        refine hL _ _ (Br.dec (fun _ => ?_) (fun hge => absurd (by rw [hx.1]; omega) hge))
        refine Dw.mk fun W2 hm2 _ => ?_
        obtain ⟨q, hq, c0, c1, c2, c3, c4, sx, c5, ix, _⟩ := hx.get hlt
        obtain ⟨p, hp, d0, d1, d2, d3, d4, sy, d5, iy, _⟩ := hy.get (show k < ys.length by omega)
        have hs := (hr.mod0 hm).mod0 hm2
        have hxw := codeW_get hlt
        unfold instrW at hxw
        refine ⟨q, ⟨hq, by omega, by rw [hx.1]; omega⟩, _, hs _ _ c0, _, hs _ _ c1, _, hs _ _ c2, _, hs _ _ c3, _, hs _ _ c4, sx, hs _ _ c5, p, ⟨hp, by omega, by rw [hy.1]; omega⟩, _, hs _ _ d0, _, hs _ _ d1, _, hs _ _ d2, _, hs _ _ d3, _, hs _ _ d4, sy, hs _ _ d5, ?_⟩
        refine CallV.mk ent_plaitref12_SameInstr (SameInstr_spec hs xs[k] ys[k] ix iy (by unfold big; omega)) ?_
        rintro e W3 ⟨rfl, hm3⟩
        have hm03 := (hm.trans0 hm2).trans0 hm3
        refine ⟨_, rfl, _, rfl, Br.mk (fun hb => ⟨?_, hm03⟩) (fun hb => ?_)⟩
        · rw [decide_eq_false (fun e => by subst e; simp at hb)]
        · have he : xs[k] = ys[k] := by simpa using hb
          rw [wrap_id (by omega) (by omega)]
          refine ih (k + 1) W3 (by omega) hlt (fun i hi => ?_) hm03
          by_cases hik : i = k
          · subst hik; rw [List.getElem?_eq_getElem hlt, List.getElem?_eq_getElem (by omega), he]
          · exact hall i (by omega)
    exact key xs.length 0 W (by omega) (by omega) (fun i hi => by omega) (Mod.refl _ _)
end Go.Proofs.YtacjnpahlbibhaaDoor
end
section
/- Contracts: the reference's rest, Same, of two modules that read the same. -/
set_option linter.unusedVariables false
set_option linter.unusedSimpArgs false
set_option maxRecDepth 100000
namespace Go.Proofs.YtacjnpahlbibhaaDoor
open Go Go.RowKit

theorem run_bytes_str {W : World} {r : Rd} (hr : Sub r W) {s : Sl} {xs : List Int} (hx : Bytes r s xs) : (convert 59 9 s.v).run Tryd.prog W = .ok (.string (strOfNums xs)) W := by
  have h1 : Program.underlying Tryd.prog 59 = some (.slice 5) := by kernel_rfl
  obtain ⟨a, l, c⟩ := s
  have hl := hx.1
  simp only at hl
  rw [run_convert_bytes_string W 59 9 5 a l c h1 und_5 und_9]
  cases a with
  | none =>
    have : xs = [] := by
      cases xs with
      | nil => rfl
      | cons u t => obtain ⟨q, hq, _⟩ := hx.2 0 u rfl; cases hq
    subst this
    obtain rfl : l = 0 := hl
    rfl
  | some q =>
    have hld : (loadCells q l).run Tryd.prog W = .ok (xs.map (Value.int .u8)).toArray W := by
      have := run_loadCells_list (P := Tryd.prog) W q (xs.map (Value.int .u8)) (fun j v hj => by
        simp only [List.getElem?_map] at hj
        cases hxj : xs[j]? with
        | none => simp [hxj] at hj
        | some x =>
          simp [hxj] at hj; subst hj
          obtain ⟨q', hq', hc⟩ := hx.2 j x hxj
          cases hq'
          rw [Nat.mul_one] at hc
          exact hr _ _ hc)
      simpa [hl] using this
    rw [run_bytesToString W q l c xs hld, foldl_push_bytes]
    simp [strOfNums, ByteArray.empty, ByteArray.emptyWithCapacity]
    rfl
theorem conv_str {W : World} {r : Rd} (hr : Sub r W) {s : Sl} {xs : List Int} (hx : Bytes r s xs) {K : Value → World → Prop} (hk : K (.string (strOfNums xs)) W) : RunV Tryd.prog (convert 59 9 s.v) W K := by
  unfold RunV; rw [run_bytes_str hr hx]; exact hk
theorem elemW_code {m : Module} (hw : ModW m) : (∀ x ∈ m.elems, codeW x.offset ≤ big) ∧ (∀ x ∈ m.codes, codeW x.body ≤ big ∧ x.locals.length ≤ big) ∧ (∀ x ∈ m.datas, codeW x.offset ≤ big) ∧ (∀ x ∈ m.globals, codeW x.init ≤ big) := by
  have hr := hw.room
  refine ⟨fun x hx => ?_, fun x hx => ?_, fun x hx => ?_, fun x hx => ?_⟩
  · have h1 := msum_mem elemW hx
    unfold elemW at h1; unfold elemW at hr; omega
  · have h1 := msum_mem fcodeW hx
    unfold fcodeW at h1; unfold fcodeW at hr; omega
  · have h1 := msum_mem dataW hx
    unfold dataW at h1; unfold dataW at hr; omega
  · have h1 := msum_mem globalW hx
    unfold globalW at h1; unfold globalW at hr; omega
/-- The two copies of the arguments, and all that was read. -/
def TwoM (b2 b3 : Nat) (r : Rd) (A B : MSl) (m : Module) (w : World) : Prop :=
  w.heap[b2]? = some (.cells (ModC A m) 32 (0, 0)) ∧ w.heap[b3]? = some (.cells (ModC B m) 32 (0, 0)) ∧ Sub r w
theorem TwoM.mod0 {b2 b3 : Nat} {r : Rd} {A B : MSl} {m : Module} {w w' : World} (h : TwoM b2 b3 r A B m w) (hm : Mod NoB w w') : TwoM b2 b3 r A B m w' :=
  ⟨hm.heap h.1 (fun h => h), hm.heap h.2.1 (fun h => h), h.2.2.mod0 hm⟩
theorem TwoM.a {b2 b3 : Nat} {r : Rd} {A B : MSl} {m : Module} {w : World} (h : TwoM b2 b3 r A B m w) {j : Nat} {v : Value} (hv : (ModC A m)[j]? = some v) : w.cell? ((⟨b2, 0, none⟩ : Addr).add j) = some v := by
  rw [add_mk]; exact cell_of_heap h.1 (by rw [Nat.zero_add]; exact hv)
theorem TwoM.b {b2 b3 : Nat} {r : Rd} {A B : MSl} {m : Module} {w : World} (h : TwoM b2 b3 r A B m w) {j : Nat} {v : Value} (hv : (ModC B m)[j]? = some v) : w.cell? ((⟨b3, 0, none⟩ : Addr).add j) = some v := by
  rw [add_mk]; exact cell_of_heap h.2.1 (by rw [Nat.zero_add]; exact hv)
theorem rest_same {W : World} {r : Rd} (hr : Sub r W) {A B : MSl} {m : Module} (ha : ModR r A m) (hb : ModR r B m) (hw : ModW m) :
    Calls Tryd.prog f_plaitref13_rest #[ModV A m, ModV B m] W fun e W' => e = .returned (.bool true) ∧ Mod NoB W W' := by
  have we := hw.elems
  have wc := hw.codes
  have wd := hw.datas
  obtain ⟨le, lc, ld, lg⟩ := elemW_code hw
  refine of_plaitref13_rest _ _ _ _ _ _ _ _ _ _ _ _ _ _ _ _ _ _ _ _ _ _ _ _ ?_
  unfold V_plaitref13_rest
  refine Na.mk fun b2 W1 hb2 hm1 hz1 hc1 => ?_
  refine Na.mk fun b3 W2 hb3 hm2 hz2 hc2 => ?_
  have hm02 := hm1.trans0 hm2
  have T2 : TwoM b2 b3 r A B m W2 := ⟨hm2.heap hc1 (fun h => h), hc2, hr.mod0 hm02⟩
  intro L hL
  have key : ∀ (n k : Nat) (W3 : World), n = m.elems.length - k → k ≤ m.elems.length → Mod NoB W2 W3 → L (k : Int) W3 := by
    intro n
    induction n with
    | zero =>
      intro k W3 hn hk hm3
      have T3 := T2.mod0 hm3
      refine hL _ _ ⟨A.elems, T3.a rfl, ?_⟩
      rw [ha.elems.1]
      refine Br.dec (fun h => by omega) (fun _ => ?_)
      intro L1 hL1
      have key1 : ∀ (n k : Nat) (W8 : World), n = m.codes.length - k → k ≤ m.codes.length → Mod NoB W2 W8 → L1 (k : Int) W8 := by
        intro n
        induction n with
        | zero =>
          intro k W8 hn hk hm8
          have T8 := T2.mod0 hm8
          refine hL1 _ _ ⟨A.codes, T8.a rfl, ?_⟩
          rw [ha.codes.1]
          refine Br.dec (fun h => by omega) (fun _ => ?_)
          intro L2 hL2
          have key2 : ∀ (n k : Nat) (W13 : World), n = m.datas.length - k → k ≤ m.datas.length → Mod NoB W2 W13 → L2 (k : Int) W13 := by
            intro n
            induction n with
            | zero =>
              intro k W13 hn hk hm13
              have T13 := T2.mod0 hm13
              refine hL2 _ _ ⟨A.datas, T13.a rfl, ?_⟩
              rw [ha.datas.1]
              exact Br.dec (fun h => by omega) (fun _ => ⟨rfl, hm02.trans0 hm13⟩)
            | succ n ih =>
              intro k W13 hn hk hm13
              have hlt : k < m.datas.length := by omega
              have T13 := T2.mod0 hm13
              refine hL2 _ _ ⟨A.datas, T13.a rfl, ?_⟩
              rw [ha.datas.1]
              refine Br.dec (fun _ => ?_) (fun h => absurd (by omega) h)
              intro J hJ
              refine Dw.mk fun W15 hm15 _ => ?_
              have T15 := T13.mod0 hm15
              obtain ⟨q, hq, s0, s1, c0, c1, i0, i1⟩ := ha.datas.get hlt
              obtain ⟨p, hp, t0, t1, d0, d1, j0, j1⟩ := hb.datas.get hlt
              have hlx := ld _ (List.getElem_mem hlt)
              have nq : A.datas.a = some q ∧ (0 : Int) ≤ (k : Int) ∧ (k : Int) < (A.datas.len : Int) := ⟨hq, by omega, by rw [ha.datas.1]; omega⟩
              have np : B.datas.a = some p ∧ (0 : Int) ≤ (k : Int) ∧ (k : Int) < (B.datas.len : Int) := ⟨hp, by omega, by rw [hb.datas.1]; omega⟩
              refine ⟨TwoM b2 b3 r A B m, T15, A.datas, fun w hw => hw.a rfl, q, nq, s0, fun w hw => hw.2.2 _ _ c0, B.datas, fun w hw => hw.b rfl, p, np, t0, fun w hw => hw.2.2 _ _ d0, ?_⟩
              refine CallV.mk ent_plaitref12_Same (SameCode_spec T15.2.2 i0 j0 hlx) ?_
              rintro e W16 ⟨rfl, hm16⟩
              have T16 := T15.mod0 hm16
              have hm216 := (hm13.trans0 hm15).trans0 hm16
              refine ⟨_, rfl, _, rfl, T16, A.datas, fun _ w hw => hw.a rfl, q, fun _ => nq, s1, fun _ w hw => hw.2.2 _ _ c1, B.datas, fun _ w hw => hw.b rfl, p, fun _ => np, t1, fun _ w hw => hw.2.2 _ _ d1, ?_⟩
              have next : J false W16 := hJ _ _ (Br.f (by rw [wrap_id (by omega) (by omega)]; exact ih (k + 1) W16 (by omega) hlt hm216))
              rw [decide_eq_true rfl]
              have hself : (!((strOfNums m.datas[k].bytes).toList == (strOfNums m.datas[k].bytes).toList)) = false := by simp
              refine ⟨⟨fun _ => ?_, fun h => by simp at h⟩, ⟨fun _ => ?_, fun h => by simp at h⟩⟩
              · refine conv_str T16.2.2 i1 ⟨_, rfl, T16, ?_⟩
                refine conv_str T16.2.2 j1 ⟨_, rfl, T16, ?_⟩
                rw [hself]; exact next
              · refine conv_str T16.2.2 j1 ⟨_, rfl, T16, ?_⟩
                refine conv_str T16.2.2 i1 ⟨_, rfl, T16, ?_⟩
                rw [hself]; exact next
          exact key2 _ 0 W8 rfl (by omega) hm8
        | succ n ih =>
          intro k W8 hn hk hm8
          have hlt : k < m.codes.length := by omega
          have T8 := T2.mod0 hm8
          refine hL1 _ _ ⟨A.codes, T8.a rfl, ?_⟩
          rw [ha.codes.1]
          refine Br.dec (fun _ => ?_) (fun h => absurd (by omega) h)
          intro J hJ
          refine Dw.mk fun W10 hm10 _ => ?_
          have T10 := T8.mod0 hm10
          obtain ⟨q, hq, s0, s1, c0, c1, i0, i1⟩ := ha.codes.get hlt
          obtain ⟨p, hp, t0, t1, d0, d1, j0, j1⟩ := hb.codes.get hlt
          have hlx := lc _ (List.getElem_mem hlt)
          have nq : A.codes.a = some q ∧ (0 : Int) ≤ (k : Int) ∧ (k : Int) < (A.codes.len : Int) := ⟨hq, by omega, by rw [ha.codes.1]; omega⟩
          have np : B.codes.a = some p ∧ (0 : Int) ≤ (k : Int) ∧ (k : Int) < (B.codes.len : Int) := ⟨hp, by omega, by rw [hb.codes.1]; omega⟩
          refine ⟨TwoM b2 b3 r A B m, T10, A.codes, fun w hw => hw.a rfl, q, nq, s0, fun w hw => hw.2.2 _ _ c0, B.codes, fun w hw => hw.b rfl, p, np, t0, fun w hw => hw.2.2 _ _ d0, ?_⟩
          refine CallV.mk ent_plaitref04_SameTypes (SameTypes_spec T10.2.2 i0 j0 hlx.2) ?_
          rintro e W11 ⟨rfl, hm11⟩
          have T11 := T10.mod0 hm11
          refine ⟨_, rfl, _, rfl, T11, A.codes, fun _ w hw => hw.a rfl, q, fun _ => nq, s1, fun _ w hw => hw.2.2 _ _ c1, B.codes, fun _ w hw => hw.b rfl, p, fun _ => np, t1, fun _ w hw => hw.2.2 _ _ d1, fun _ => ?_, fun h => by simp at h⟩
          refine CallV.mk ent_plaitref12_Same (SameCode_spec T11.2.2 i1 j1 hlx.1) ?_
          rintro e W12 ⟨rfl, hm12⟩
          have hm212 := ((hm8.trans0 hm10).trans0 hm11).trans0 hm12
          refine ⟨_, rfl, _, rfl, T11.mod0 hm12, hJ _ _ (Br.mk (fun h => by simp at h) (fun _ => ?_))⟩
          rw [wrap_id (by omega) (by omega)]
          exact ih (k + 1) W12 (by omega) hlt hm212
      exact key1 _ 0 W3 rfl (by omega) hm3
    | succ n ih =>
      intro k W3 hn hk hm3
      have hlt : k < m.elems.length := by omega
      have T3 := T2.mod0 hm3
      refine hL _ _ ⟨A.elems, T3.a rfl, ?_⟩
      rw [ha.elems.1]
      refine Br.dec (fun _ => ?_) (fun h => absurd (by omega) h)
      intro J hJ
      refine Dw.mk fun W5 hm5 _ => ?_
      have T5 := T3.mod0 hm5
      obtain ⟨q, hq, s0, s1, c0, c1, i0, i1, w1⟩ := ha.elems.get hlt
      obtain ⟨p, hp, t0, t1, d0, d1, j0, j1, _⟩ := hb.elems.get hlt
      have hlx := le _ (List.getElem_mem hlt)
      have nq : A.elems.a = some q ∧ (0 : Int) ≤ (k : Int) ∧ (k : Int) < (A.elems.len : Int) := ⟨hq, by omega, by rw [ha.elems.1]; omega⟩
      have np : B.elems.a = some p ∧ (0 : Int) ≤ (k : Int) ∧ (k : Int) < (B.elems.len : Int) := ⟨hp, by omega, by rw [hb.elems.1]; omega⟩
      refine ⟨TwoM b2 b3 r A B m, T5, A.elems, fun w hw => hw.a rfl, q, nq, s0, fun w hw => hw.2.2 _ _ c0, B.elems, fun w hw => hw.b rfl, p, np, t0, fun w hw => hw.2.2 _ _ d0, ?_⟩
      refine CallV.mk ent_plaitref12_Same (SameCode_spec T5.2.2 i0 j0 hlx) ?_
      rintro e W6 ⟨rfl, hm6⟩
      have T6 := T5.mod0 hm6
      refine ⟨_, rfl, _, rfl, T6, A.elems, fun _ w hw => hw.a rfl, q, fun _ => nq, s1, fun _ w hw => hw.2.2 _ _ c1, B.elems, fun _ w hw => hw.b rfl, p, fun _ => np, t1, fun _ w hw => hw.2.2 _ _ d1, fun _ => ?_, fun h => by simp at h⟩
      refine CallV.mk ent_plaitref04_SameTypes (SameTypes_spec T6.2.2 i1 j1 w1) ?_
      rintro e W7 ⟨rfl, hm7⟩
      have hm27 := ((hm3.trans0 hm5).trans0 hm6).trans0 hm7
      refine ⟨_, rfl, _, rfl, T6.mod0 hm7, hJ _ _ (Br.mk (fun h => by simp at h) (fun _ => ?_))⟩
      rw [wrap_id (by omega) (by omega)]
      exact ih (k + 1) W7 (by omega) hlt hm27
  exact key _ 0 W2 rfl (by omega) (Mod.refl _ _)
end Go.Proofs.YtacjnpahlbibhaaDoor
end
section
/- Contracts: the reference's Same, of two modules that read the same. -/
set_option linter.unusedVariables false
set_option linter.unusedSimpArgs false
set_option maxRecDepth 100000
namespace Go.Proofs.YtacjnpahlbibhaaDoor
open Go Go.RowKit

theorem Same_same {W : World} {r : Rd} (hr : Sub r W) {A B : MSl} {m : Module} (ha : ModR r A m) (hb : ModR r B m) (hw : ModW m) :
    Calls Tryd.prog f_plaitref13_Same #[ModV A m, ModV B m] W fun e W' => e = .returned (.bool true) ∧ Mod NoB W W' := by
  have w1 := hw.types
  have w2 := hw.imports
  have w3 := hw.globals
  have w4 := hw.exports
  have w5 := hw.funcs
  have w6 := hw.tables
  have w7 := hw.mems
  obtain ⟨le, lc, ld, lg⟩ := elemW_code hw
  refine of_plaitref13_Same _ _ _ _ _ _ _ _ _ _ _ _ _ _ _ _ _ _ _ _ _ _ _ _ ?_
  unfold V_plaitref13_Same
  refine Na.mk fun b2 W1 hb2 hm1 hz1 hc1 => ?_
  refine Na.mk fun b3 W2 hb3 hm2 hz2 hc2 => ?_
  have hm02 := hm1.trans0 hm2
  have T2 : TwoM b2 b3 r A B m W2 := ⟨hm2.heap hc1 (fun h => h), hc2, hr.mod0 hm02⟩
  refine ⟨A.types, T2.a rfl, B.types, T2.b rfl, A.imports, fun _ => T2.a rfl, B.imports, fun _ => T2.b rfl, A.globals, fun _ => T2.a rfl, B.globals, fun _ => T2.b rfl, A.exports, fun _ => T2.a rfl, B.exports, fun _ => T2.b rfl, A.elems, fun _ => T2.a rfl, B.elems, fun _ => T2.b rfl, A.codes, fun _ => T2.a rfl, B.codes, fun _ => T2.b rfl, A.datas, fun _ => T2.a rfl, B.datas, fun _ => T2.b rfl, ?_⟩
  rw [ha.types.1, hb.types.1, ha.imports.1, hb.imports.1, ha.globals.1, hb.globals.1, ha.exports.1, hb.exports.1, ha.elems.1, hb.elems.1, ha.codes.1, hb.codes.1, ha.datas.1, hb.datas.1]
  refine Br.mk (fun h => by simp at h) (fun _ => ?_)
  intro J hJ
  have hJ' : ∀ W3, Mod NoB W2 W3 → J W3 := by
    intro W3 hm3
    refine hJ _ ?_
    intro L hL
    have key : ∀ (n k : Nat) (W4 : World), n = m.types.length - k → k ≤ m.types.length → Mod NoB W2 W4 → L (k : Int) W4 := by
      intro n
      induction n with
      | zero =>
        intro k W4 hn hk hm4
        have T4 := T2.mod0 hm4
        refine hL _ _ ⟨A.types, T4.a rfl, ?_⟩
        rw [ha.types.1]
        refine Br.dec (fun h => by omega) (fun _ => ?_)
        intro L1 hL1
        have key1 : ∀ (n k : Nat) (W7 : World), n = m.imports.length - k → k ≤ m.imports.length → Mod NoB W2 W7 → L1 (k : Int) W7 := by
          intro n
          induction n with
          | zero =>
            intro k W7 hn hk hm7
            have T7 := T2.mod0 hm7
            refine hL1 _ _ ⟨A.imports, T7.a rfl, ?_⟩
            rw [ha.imports.1]
            refine Br.dec (fun h => by omega) (fun _ => ?_)
            intro L2 hL2
            have key2 : ∀ (n k : Nat) (W10 : World), n = m.globals.length - k → k ≤ m.globals.length → Mod NoB W2 W10 → L2 (k : Int) W10 := by
              intro n
              induction n with
              | zero =>
                intro k W10 hn hk hm10
                have T10 := T2.mod0 hm10
                refine hL2 _ _ ⟨A.globals, T10.a rfl, ?_⟩
                rw [ha.globals.1]
                refine Br.dec (fun h => by omega) (fun _ => ?_)
                intro L3 hL3
                have key3 : ∀ (n k : Nat) (W14 : World), n = m.exports.length - k → k ≤ m.exports.length → Mod NoB W2 W14 → L3 (k : Int) W14 := by
                  intro n
                  induction n with
                  | zero =>
                    intro k W14 hn hk hm14
                    have T14 := T2.mod0 hm14
                    refine hL3 _ _ ⟨A.exports, T14.a rfl, ?_⟩
                    rw [ha.exports.1]
                    refine Br.dec (fun h => by omega) (fun _ => ?_)
                    refine ⟨A.types, T14.a rfl, A.imports, T14.a rfl, A.funcs, T14.a rfl, A.tables, T14.a rfl, A.mems, T14.a rfl, A.globals, T14.a rfl, A.exports, T14.a rfl, m.start, T14.a rfl, A.elems, T14.a rfl, A.codes, T14.a rfl, A.datas, T14.a rfl, B.types, T14.b rfl, B.imports, T14.b rfl, B.funcs, T14.b rfl, B.tables, T14.b rfl, B.mems, T14.b rfl, B.globals, T14.b rfl, B.exports, T14.b rfl, m.start, T14.b rfl, B.elems, T14.b rfl, B.codes, T14.b rfl, B.datas, T14.b rfl, ?_⟩
                    refine CallV.mk ent_plaitref13_rest (rest_same T14.2.2 ha hb hw) ?_
                    rintro e W17 ⟨rfl, hm17⟩
                    exact ⟨_, rfl, _, rfl, rfl, (hm02.trans0 hm14).trans0 hm17⟩
                  | succ n ih =>
                    intro k W14 hn hk hm14
                    have hlt : k < m.exports.length := by omega
                    have T14 := T2.mod0 hm14
                    refine hL3 _ _ ⟨A.exports, T14.a rfl, ?_⟩
                    rw [ha.exports.1]
                    refine Br.dec (fun _ => ?_) (fun h => absurd (by omega) h)
                    refine Dw.mk fun W15 hm15 _ => ?_
                    have T15 := T14.mod0 hm15
                    obtain ⟨q, hq, c0, c1, c2⟩ := ha.exports.get hlt
                    obtain ⟨p, hp, d0, d1, d2⟩ := hb.exports.get hlt
                    refine ⟨TwoM b2 b3 r A B m, T15, A.exports, fun w hw => hw.a rfl, q, ⟨hq, by omega, by rw [ha.exports.1]; omega⟩, _, fun w hw => hw.2.2 _ _ c0, _, fun w hw => hw.2.2 _ _ c1, _, fun w hw => hw.2.2 _ _ c2, B.exports, fun w hw => hw.b rfl, p, ⟨hp, by omega, by rw [hb.exports.1]; omega⟩, _, fun w hw => hw.2.2 _ _ d0, _, fun w hw => hw.2.2 _ _ d1, _, fun w hw => hw.2.2 _ _ d2, ?_⟩
                    refine neq_run (by kernel_rfl) (eq_export _ _ _ _ _ _ _) ⟨T15, Br.mk (fun h => by simp at h) (fun _ => ?_)⟩
                    rw [wrap_id (by omega) (by omega)]
                    exact ih (k + 1) W15 (by omega) hlt (hm14.trans0 hm15)
                exact key3 _ 0 W10 rfl (by omega) hm10
              | succ n ih =>
                intro k W10 hn hk hm10
                have hlt : k < m.globals.length := by omega
                have T10 := T2.mod0 hm10
                refine hL2 _ _ ⟨A.globals, T10.a rfl, ?_⟩
                rw [ha.globals.1]
                refine Br.dec (fun _ => ?_) (fun h => absurd (by omega) h)
                intro J1 hJ1
                refine Dw.mk fun W12 hm12 _ => ?_
                have T12 := T10.mod0 hm12
                obtain ⟨q, hq, c0, c1, sg, c2, ig⟩ := ha.globals.get hlt
                obtain ⟨p, hp, d0, d1, tg, d2, jg⟩ := hb.globals.get hlt
                have nq : A.globals.a = some q ∧ (0 : Int) ≤ (k : Int) ∧ (k : Int) < (A.globals.len : Int) := ⟨hq, by omega, by rw [ha.globals.1]; omega⟩
                have np : B.globals.a = some p ∧ (0 : Int) ≤ (k : Int) ∧ (k : Int) < (B.globals.len : Int) := ⟨hp, by omega, by rw [hb.globals.1]; omega⟩
                refine ⟨TwoM b2 b3 r A B m, T12, A.globals, fun w hw => hw.a rfl, q, nq, _, fun w hw => hw.2.2 _ _ c0, B.globals, fun w hw => hw.b rfl, p, np, _, fun w hw => hw.2.2 _ _ d0, A.globals, fun _ w hw => hw.a rfl, q, fun _ => nq, _, fun _ w hw => hw.2.2 _ _ c1, B.globals, fun _ w hw => hw.b rfl, p, fun _ => np, _, fun _ w hw => hw.2.2 _ _ d1, A.globals, fun _ w hw => hw.a rfl, q, fun _ => nq, sg, fun _ w hw => hw.2.2 _ _ c2, B.globals, fun _ w hw => hw.b rfl, p, fun _ => np, tg, fun _ w hw => hw.2.2 _ _ d2, fun _ => ?_, fun h => by simp at h⟩
                refine CallV.mk ent_plaitref12_Same (SameCode_spec T12.2.2 ig jg (lg _ (List.getElem_mem hlt))) ?_
                rintro e W13 ⟨rfl, hm13⟩
                have hm213 := (hm10.trans0 hm12).trans0 hm13
                refine ⟨_, rfl, _, rfl, T12.mod0 hm13, hJ1 _ _ (Br.mk (fun h => by simp at h) (fun _ => ?_))⟩
                rw [wrap_id (by omega) (by omega)]
                exact ih (k + 1) W13 (by omega) hlt hm213
            exact key2 _ 0 W7 rfl (by omega) hm7
          | succ n ih =>
            intro k W7 hn hk hm7
            have hlt : k < m.imports.length := by omega
            have T7 := T2.mod0 hm7
            refine hL1 _ _ ⟨A.imports, T7.a rfl, ?_⟩
            rw [ha.imports.1]
            refine Br.dec (fun _ => ?_) (fun h => absurd (by omega) h)
            refine Dw.mk fun W8 hm8 _ => ?_
            have T8 := T7.mod0 hm8
            obtain ⟨q, hq, c0, c1, c2⟩ := ha.imports.get hlt
            obtain ⟨p, hp, d0, d1, d2⟩ := hb.imports.get hlt
            refine ⟨TwoM b2 b3 r A B m, T8, A.imports, fun w hw => hw.a rfl, q, ⟨hq, by omega, by rw [ha.imports.1]; omega⟩, _, fun w hw => hw.2.2 _ _ c0, _, fun w hw => hw.2.2 _ _ c1, _, fun w hw => hw.2.2 _ _ c2, B.imports, fun w hw => hw.b rfl, p, ⟨hp, by omega, by rw [hb.imports.1]; omega⟩, _, fun w hw => hw.2.2 _ _ d0, _, fun w hw => hw.2.2 _ _ d1, _, fun w hw => hw.2.2 _ _ d2, ?_⟩
            refine neq_run (by kernel_rfl) (eq_import _ _ _ _ _ _ _) ⟨T8, Br.mk (fun h => by simp at h) (fun _ => ?_)⟩
            rw [wrap_id (by omega) (by omega)]
            exact ih (k + 1) W8 (by omega) hlt (hm7.trans0 hm8)
        exact key1 _ 0 W4 rfl (by omega) hm4
      | succ n ih =>
        intro k W4 hn hk hm4
        have hlt : k < m.types.length := by omega
        have T4 := T2.mod0 hm4
        refine hL _ _ ⟨A.types, T4.a rfl, ?_⟩
        rw [ha.types.1]
        refine Br.dec (fun _ => ?_) (fun h => absurd (by omega) h)
        refine Dw.mk fun W5 hm5 _ => ?_
        have T5 := T4.mod0 hm5
        obtain ⟨q, hq, s0, s1, c0, c1, i0, i1, l0, l1⟩ := ha.types.get hlt
        obtain ⟨p, hp, t0, t1, d0, d1, j0, j1, _⟩ := hb.types.get hlt
        refine ⟨TwoM b2 b3 r A B m, T5, A.types, fun w hw => hw.a rfl, q, ⟨hq, by omega, by rw [ha.types.1]; omega⟩, s0, fun w hw => hw.2.2 _ _ c0, s1, fun w hw => hw.2.2 _ _ c1, B.types, fun w hw => hw.b rfl, p, ⟨hp, by omega, by rw [hb.types.1]; omega⟩, t0, fun w hw => hw.2.2 _ _ d0, t1, fun w hw => hw.2.2 _ _ d1, ?_⟩
        refine CallV.mk ent_plaitref13_SameSig (SameSig_spec T5.2.2 i0 i1 j0 j1 l0 l1) ?_
        rintro e W6 ⟨rfl, hm6⟩
        refine ⟨_, rfl, _, rfl, T5.mod0 hm6, Br.mk (fun h => by simp at h) (fun _ => ?_)⟩
        rw [wrap_id (by omega) (by omega)]
        exact ih (k + 1) W6 (by omega) hlt ((hm4.trans0 hm5).trans0 hm6)
    exact key _ 0 W3 rfl (by omega) hm3
  intro J2 hJ2
  refine ⟨m.start, T2.a rfl, m.start, T2.b rfl, A.funcs, fun _ => T2.a rfl, B.funcs, fun _ => T2.b rfl, fun _ => ?_, fun h => by simp at h⟩
  refine CallV.mk ent_plaitref04_SameTypes (SameTypes_spec (xs := m.funcs) (ys := m.funcs) T2.2.2 ha.funcs hb.funcs w5) ?_
  rintro e W19 ⟨rfl, hm19⟩
  have T19 := T2.mod0 hm19
  refine ⟨_, rfl, _, rfl, A.tables, fun _ => T19.a rfl, B.tables, fun _ => T19.b rfl, fun _ => ?_, fun h => by simp at h⟩
  refine CallV.mk ent_plaitref13_sameLimits (sameLimits_spec T19.2.2 ha.tables hb.tables w6) ?_
  rintro e W20 ⟨rfl, hm20⟩
  have T20 := T19.mod0 hm20
  refine ⟨_, rfl, _, rfl, A.mems, fun _ => T20.a rfl, B.mems, fun _ => T20.b rfl, fun _ => ?_, fun h => by simp at h⟩
  refine CallV.mk ent_plaitref13_sameLimits (sameLimits_spec T20.2.2 ha.mems hb.mems w7) ?_
  rintro e W21 ⟨rfl, hm21⟩
  exact ⟨_, rfl, _, rfl, hJ2 _ _ (Br.mk (fun h => by simp at h) (fun _ => hJ' _ ((hm19.trans0 hm20).trans0 hm21)))⟩
end Go.Proofs.YtacjnpahlbibhaaDoor
end

/- Plain laws: the walk through a module that has grown. No program in sight. -/
import Derived.Test.YtacjnpahlbibhaaDoorGrA
set_option linter.unusedVariables false
set_option linter.unusedSimpArgs false
set_option maxRecDepth 100000
namespace Go.Proofs.YtacjnpahlbibhaaDoor

/-! ### What is bad stays bad -/
theorem Wk.must_sticky {k : Wk} (h : k.bad = true) (ok : Bool) : (k.must ok).bad = true := by simp [Wk.must, h]
theorem Wk.take_sticky {k : Wk} (h : k.bad = true) (t : Int) : (k.take t).2.bad = true := by
  unfold Wk.take
  split
  · exact h
  · split
    · exact Wk.must_sticky h _
    · exact Wk.must_sticky (k := { k with stack := k.stack.dropLast }) h _
theorem Wk.takeR_sticky (l : List Int) : ∀ {k : Wk}, k.bad = true → (k.takeR l).bad = true := by
  induction l with
  | nil => intro k h; exact h
  | cons t r ih => intro k h; exact ih (Wk.take_sticky h t)
theorem Wk.takes_sticky {k : Wk} (h : k.bad = true) (l : List Int) : (k.takes l).bad = true := Wk.takeR_sticky _ h
theorem Wk.gives_sticky {k : Wk} (h : k.bad = true) (l : List Int) : (k.gives l).bad = true := h
theorem Wk.open_sticky {k : Wk} (h : k.bad = true) (op : Int) (a b : List Int) : (k.open op a b).bad = true := h
/-! ### A module with more types and globals -/
structure Wider (m m' : Module) : Prop where
  types : ∃ l, m'.types = m.types ++ l
  globals : ∃ l, m'.globals = m.globals ++ l
  imports : m'.imports = m.imports
  funcs : m'.funcs = m.funcs
  tables : m'.tables = m.tables
  mems : m'.mems = m.mems
variable {m m' : Module}
theorem kindOf_wider (h : Wider m m') {a : Int} (hk : (kindOf m a).2 = true) : kindOf m' a = kindOf m a := by
  unfold kindOf at hk
  split at hk
  · rename_i hc
    obtain ⟨l, hl⟩ := h.types
    unfold kindOf
    rw [dif_pos hc, dif_pos ⟨hc.1, by rw [hl, List.length_append]; omega⟩]
    congr 1
    simp only [hl]
    rw [List.getElem_append_left]
  · cases hk
theorem kidx_wider (h : Wider m m') (f : Int) : kidx m' f = kidx m f := by
  unfold kidx
  simp only [h.imports, h.funcs]
theorem sigOf_wider (h : Wider m m') {f : Int} (hk : (sigOf m f).2 = true) : sigOf m' f = sigOf m f := by
  unfold sigOf at hk ⊢
  rw [kidx_wider h, kindOf_wider h hk]
theorem step_wider (h : Wider m m') {lc : List Int} {i : Info} {k : Wk} {x : Instr} (hb : (k.step m lc i x).bad = false) : k.step m' lc i x = k.step m lc i x := by
  have no : ∀ {b : Bool}, b = true → b = false → False := fun h1 h2 => by rw [h1] at h2; cases h2
  unfold Wk.step at hb ⊢
  split
  · unfold Wk.fields; rw [h.mems]
  · rename_i hp
    rw [if_neg hp] at hb
    split
    · rename_i hop
      rw [if_pos hop] at hb
      generalize (if x.op = 4 then (k.take 127).2 else k) = k1 at hb ⊢
      have : k1.sig m' x.a = k1.sig m x.a := by
        unfold Wk.sig
        split
        · rename_i ha
          have hk : (kindOf m x.a).2 = true := by
            rcases Bool.eq_false_or_eq_true (kindOf m x.a).2 with e | e
            · exact e
            · exfalso
              refine no ?_ hb
              refine Wk.gives_sticky (Wk.open_sticky (Wk.takes_sticky ?_ _) _ _ _) _
              unfold Wk.sig
              rw [if_pos ha, e]
              simp [Wk.must]
          rw [kindOf_wider h hk]
        · rfl
      simp only [this]
    · rename_i hop
      rw [if_neg hop] at hb
      split
      · rfl
      · rename_i hop2
        rw [if_neg hop2] at hb
        split
        · rfl
        · rename_i e26
          rw [if_neg e26] at hb
          split
          · rfl
          · rename_i e27
            rw [if_neg e27] at hb
            split
            · rename_i e16
              rw [if_pos e16] at hb
              have hk : (sigOf m x.a).2 = true := by
                rcases Bool.eq_false_or_eq_true (sigOf m x.a).2 with e | e
                · exact e
                · exfalso
                  refine no ?_ hb
                  refine Wk.gives_sticky (Wk.takes_sticky ?_ _) _
                  rw [e]; simp [Wk.must]
              rw [sigOf_wider h hk]
            · rename_i e16
              rw [if_neg e16] at hb
              split
              · rename_i e17
                rw [if_pos e17] at hb
                have hk : (kindOf m x.a).2 = true := by
                  rcases Bool.eq_false_or_eq_true (kindOf m x.a).2 with e | e
                  · exact e
                  · exfalso
                    refine no ?_ hb
                    refine Wk.gives_sticky (Wk.takes_sticky (Wk.take_sticky ?_ _) _) _
                    rw [e]; simp [Wk.must]
                rw [kindOf_wider h hk, h.tables]
              · rename_i e17
                rw [if_neg e17] at hb
                have hv : ∀ k1 : Wk, (k1.varIn m lc x.op x.a).bad = false → k1.varIn m' lc x.op x.a = k1.varIn m lc x.op x.a := by
                  intro k1 hb1
                  have : varOf m' lc x.op x.a = varOf m lc x.op x.a := by
                    unfold varOf
                    split
                    · rfl
                    · rename_i h34
                      obtain ⟨l, hl⟩ := h.globals
                      rcases Nat.lt_or_ge x.a.toNat m.globals.length with hlt | hge
                      · rw [hl, List.getElem?_append_left hlt]
                      · exfalso
                        refine no ?_ hb1
                        have hnone : m.globals[x.a.toNat]? = none := List.getElem?_eq_none hge
                        have h1 : (k1.must (varOf m lc x.op x.a).2).bad = true := by
                          unfold varOf; rw [if_neg h34, hnone]; simp [Wk.must]
                        simp only [Wk.varIn]
                        have h2 : (if x.op ≠ 32 ∧ x.op ≠ 35 then ((k1.must (varOf m lc x.op x.a).2).take (varOf m lc x.op x.a).1).2 else k1.must (varOf m lc x.op x.a).2).bad = true := by
                          split
                          · exact Wk.take_sticky h1 _
                          · exact h1
                        split
                        · exact Wk.gives_sticky h2 _
                        · exact h2
                  unfold Wk.varIn
                  rw [this]
                unfold Wk.jump at hb ⊢
                by_cases e0 : x.op = 0
                · rw [if_pos e0, if_pos e0]
                rw [if_neg e0] at hb ⊢; rw [if_neg e0]
                by_cases e12 : x.op = 12
                · rw [if_pos e12, if_pos e12]
                rw [if_neg e12] at hb ⊢; rw [if_neg e12]
                by_cases e13 : x.op = 13
                · rw [if_pos e13, if_pos e13]
                rw [if_neg e13] at hb ⊢; rw [if_neg e13]
                by_cases e14 : x.op = 14
                · rw [if_pos e14, if_pos e14]
                rw [if_neg e14] at hb ⊢; rw [if_neg e14]
                by_cases e15 : x.op = 15
                · rw [if_pos e15, if_pos e15]
                rw [if_neg e15] at hb ⊢; rw [if_neg e15]
                exact hv k hb
theorem walk_wider (h : Wider m m') {lc : List Int} : ∀ (l : List Instr) {k : Wk}, (walkGo m lc k l).isSome = true → walkGo m' lc k l = walkGo m lc k l := by
  intro l
  induction l with
  | nil => intro k _; rfl
  | cons x r ih =>
    intro k hs
    unfold walkGo at hs ⊢
    rcases Bool.eq_false_or_eq_true (k.step m lc (instrOf x.op).1 x).bad with e | e
    · rw [e] at hs; simp at hs
    · rw [step_wider h e, e] 
      rw [e] at hs
      simp only [Bool.false_eq_true, if_false, Option.isSome_map] at hs ⊢
      rw [ih hs]
/-! ### The first steps -/
theorem step_get (m : Module) (lc : List Int) (k : Wk) (a : Int) : k.step m lc (instrOf 32).1 (iGet a) = k.varIn m lc 32 a := by
  have h1 : (instrOf 32).1.plain = false := by decide +kernel
  unfold Wk.step iGet
  rw [h1]
  simp [Wk.jump]
theorem walk_bad {m : Module} {lc : List Int} {k : Wk} {a : Int} (ha : lc[a.toNat]? = none) (r : List Instr) : walkGo m lc k (iGet a :: r) = none := by
  unfold walkGo
  have e : (k.step m lc (instrOf (iGet a).op).1 (iGet a)).bad = true := by
    show (k.step m lc (instrOf 32).1 (iGet a)).bad = true
    rw [step_get]
    unfold Wk.varIn
    have : varOf m lc 32 a = (0, false) := by unfold varOf; rw [if_pos (by omega), ha]
    simp [this, Wk.must, Wk.gives]
  rw [e]; rfl
theorem walk_zero {m : Module} {lc : List Int} {outs : List Int} (r : List Instr) (h : (walkGo m lc (wk0 outs) r).isSome = true) : (walkGo m lc (wk0 outs) (iZero :: iDrop :: r)).isSome = true := by
  have z1 : (instrOf 65).1.plain = true := by decide +kernel
  have z2 : (instrOf 65).1.form = 9 := by decide +kernel
  have z3 : (instrOf 65).1.ins = [] := by decide +kernel
  have z4 : (instrOf 65).1.outs = [127] := by decide +kernel
  have d1 : (instrOf 26).1.plain = false := by decide +kernel
  have e1 : (wk0 outs).step m lc (instrOf iZero.op).1 iZero = (wk0 outs).gives [127] := by
    show (wk0 outs).step m lc (instrOf 65).1 iZero = _
    unfold Wk.step
    rw [z1, z2, z3, z4]
    rfl
  have e2 : ((wk0 outs).gives [127]).step m lc (instrOf iDrop.op).1 iDrop = wk0 outs := by
    show ((wk0 outs).gives [127]).step m lc (instrOf 26).1 iDrop = _
    unfold Wk.step
    rw [d1]
    rfl
  have b0 : (wk0 outs).bad = false := rfl
  have b1 : ((wk0 outs).gives [127]).bad = false := rfl
  rw [walkGo, e1, b1]
  simp only [Bool.false_eq_true, if_false, Option.isSome_map]
  rw [walkGo, e2, b0]
  simpa using h
end Go.Proofs.YtacjnpahlbibhaaDoor

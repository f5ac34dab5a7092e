import Derived.Test.YtacjnpahlbibhaaDoorLawB
import Derived.Test.YtacjnpahlbibhaaDoorRows
import Derived.Deep.Slices
import Derived.Deep.Fields
import Derived.ChangeSame
section
/- The arguments, opened: a module that is read is a module of the plain model. -/
set_option linter.unusedVariables false
set_option linter.unusedSimpArgs false
set_option maxRecDepth 100000
namespace Go.Proofs.YtacjnpahlbibhaaDoor
open Go Go.RowKit

theorem bulkAll_sum {H : Type} (l : List (DataW H)) : Rows.uptoBulkAll l = (l.map Rows.uptoBulk).sum := by
  induction l with
  | nil => rw [Rows.uptoBulkAll]; rfl
  | cons d r ih => rw [Rows.uptoBulkAll, ih]; rfl
theorem bulk_slice {H : Type} (a b : List (DataW H)) : Rows.uptoBulk (.slice a b) = Rows.uptoBulkAll a + Rows.uptoBulkAll b + 1 := by rw [Rows.uptoBulk]
theorem bulk_agg {H : Type} (a : List (DataW H)) : Rows.uptoBulk (.agg a) = Rows.uptoBulkAll a + 1 := by rw [Rows.uptoBulk]
theorem bulk_nil {H : Type} : Rows.uptoBulk (.nil : DataW H) = 1 := by rw [Rows.uptoBulk]
theorem bulk_str {H : Type} (s : List UInt8) : Rows.uptoBulk (.lit (.string s) : DataW H) = s.length + 1 := by rw [Rows.uptoBulk]
theorem bulk_int {H : Type} (k : IntKind) (n : Int) : Rows.uptoBulk (.lit (.int k n) : DataW H) = 1 := by
  rw [Rows.uptoBulk]; intro s h; cases h
theorem bulk_bool {H : Type} (b : Bool) : Rows.uptoBulk (.lit (.bool b) : DataW H) = 1 := by
  rw [Rows.uptoBulk]; intro s h; cases h
theorem sum_le {a b : List Nat} (hl : a.length = b.length) (h : ∀ (i : Nat) x y, a[i]? = some x → b[i]? = some y → x ≤ y) : a.sum ≤ b.sum := by
  induction a generalizing b with
  | nil => simp
  | cons x r ih =>
    cases b with
    | nil => simp at hl
    | cons y s =>
      have h0 := h 0 x y rfl rfl
      have := ih (b := s) (by simpa using hl) (fun i u v hu hv => h (i + 1) u v hu hv)
      simp only [List.sum_cons]; omega
theorem choose_list {α : Type} {P : Nat → α → Prop} : ∀ n : Nat, (∀ i, i < n → ∃ y, P i y) → ∃ ys : List α, ys.length = n ∧ ∀ (i : Nat) y, ys[i]? = some y → P i y := by
  intro n
  induction n with
  | zero => intro _; exact ⟨[], rfl, fun i y h => by simp at h⟩
  | succ n ih =>
    intro h
    obtain ⟨ys, hl, hy⟩ := ih (fun i hi => h i (by omega))
    obtain ⟨y, hp⟩ := h n (by omega)
    refine ⟨ys ++ [y], by simp [hl], fun i z hz => ?_⟩
    rcases Nat.lt_or_ge i ys.length with hi | hi
    · rw [List.getElem?_append_left hi] at hz; exact hy i z hz
    · rw [List.getElem?_append_right hi] at hz
      have hi2 : i = ys.length := by
        rcases Nat.lt_or_ge i (ys.length + 1) with h' | h'
        · omega
        · rw [List.getElem?_eq_none (by simp; omega)] at hz; cases hz
      subst hi2
      simp at hz; subst hz
      rw [hl]; exact hp
theorem mul_sum (c : Nat) (l : List Nat) : (l.map (c * ·)).sum = c * l.sum := by
  induction l with
  | nil => simp
  | cons a r ih => simp [ih, Nat.mul_add]
section
variable {H : Type} {enc : TypeId × Value → H} {w : World}
noncomputable abbrev Tr (enc : TypeId × Value → H) (w : World) (n : Nat) (t : TypeId) (cs : List Value) := DataW.trod enc Tryd.prog w 0 (fun _ => true) true n t cs
/-- How an element is opened: it reads as one of the plain model's, and weighs no more than its datum. -/
def Opens (enc : TypeId × Value → H) (w : World) (e : TypeId) (sz : Nat) {α : Type} (R : Rd → Addr → α → Prop) (wt : α → Nat) : Prop :=
  ∀ n q cs x, w.cells? 0 q sz = some cs → Tr enc w n e cs = some x → Rows.uptoBulk x.1 ≤ 1048576 → ∃ y, R w.cell? q y ∧ wt y ≤ 100 * Rows.uptoBulk x.1
theorem slice_opens {α : Type} {sz : Nat} {t e : TypeId} (ht : Program.underlying Tryd.prog t = some (.slice e)) (hsz : Tryd.prog.cellsOf e = sz) {R : Rd → Addr → α → Prop} {wt : α → Nat} (he : Opens enc w e sz R wt) {n : Nat} {v : Value} {x : DataW H × List MemPlace}
    (h : Tr enc w n t [v] = some x) (hB : Rows.uptoBulk x.1 ≤ 1048576) : ∃ (s : Sl) (ys : List α), v = s.v ∧ SlOf sz R w.cell? s ys ∧ msum wt ys + 100 ≤ 100 * Rows.uptoBulk x.1 := by
  rcases Go.Deep.open_slice ht h with ⟨hv, rfl⟩ | ⟨a, len, cap, m, n', D, Pl, hv, hb, hl, hm, hmm, rfl, hx⟩
  · simp only [List.cons.injEq, and_true] at hv
    subst hv
    exact ⟨⟨none, 0, 0⟩, [], rfl, SlOf.nil _ _, by rw [bulk_nil]; simp [msum]⟩
  · simp only [List.cons.injEq, and_true] at hv
    subst hv
    simp only [bulk_slice, bulkAll_sum] at hB ⊢
    rw [List.map_map] at hB ⊢
    have hle : len ≤ m := by rw [hmm]; simp; exact hl
    have hbd : ∀ i, i < len → Rows.uptoBulk (D i) ≤ 1048576 := by
      intro i hi
      have h1 := sum_get_le id (xs := (List.range len).map (Rows.uptoBulk ∘ D)) (k := i) (by simpa using hi)
      simp only [List.map_id, List.getElem_map, List.getElem_range, Function.comp, id] at h1
      omega
    obtain ⟨ys, hyl, hy⟩ := choose_list (P := fun i (y : α) => R w.cell? (a.add (i * sz)) y ∧ wt y ≤ 100 * Rows.uptoBulk (D i)) len (fun i hi => by
      obtain ⟨cs', hc, ht'⟩ := hx i (by omega)
      rw [hsz] at hc
      exact he n' _ cs' _ hc ht' (hbd i hi))
    refine ⟨⟨some a, len, cap⟩, ys, rfl, ⟨hyl.symm, fun i y hyi => ⟨a, rfl, (hy i y hyi).1⟩⟩, ?_⟩
    have hs : msum wt ys ≤ ((List.range len).map (fun i => 100 * Rows.uptoBulk (D i))).sum := by
      unfold msum
      refine sum_le (by simp [hyl]) (fun i p q hp hq => ?_)
      simp only [List.getElem?_map, Option.map_eq_some_iff] at hp hq
      obtain ⟨y, hyi, rfl⟩ := hp
      obtain ⟨j, hj, rfl⟩ := hq
      have hji : j = i := by
        rw [List.getElem?_range] at hj
        · simpa using hj.symm
        · rcases Nat.lt_or_ge i len with h' | h'
          · exact h'
          · rw [List.getElem?_eq_none (by simpa using h')] at hj; cases hj
      subst hji
      exact (hy _ y hyi).2
    have hm2 : ((List.range len).map (fun i => 100 * Rows.uptoBulk (D i))).sum = 100 * ((List.range len).map (Rows.uptoBulk ∘ D)).sum := by
      rw [← mul_sum, List.map_map]; rfl
    rw [hm2] at hs
    omega
theorem fields_open {t : TypeId} {fs : Array Field} (ht : Program.underlying Tryd.prog t = some (.struct fs)) (hone : Go.Deep.oneCellFields Tryd.prog fs = true) (hC : Tryd.prog.cellsOf t = fs.size) {n : Nat} {cs : List Value} {x : DataW H × List MemPlace} (h : Tr enc w n t cs = some x) :
    cs.length = fs.size ∧ ∃ (ys : List (DataW H × List MemPlace)) (n' : Nat), Rows.uptoBulk x.1 = (ys.map fun y => Rows.uptoBulk y.1).sum + 1 ∧ ys.length = fs.size ∧ ∀ (j : Nat) (f : Field), fs[j]? = some f → ∃ v y, cs[j]? = some v ∧ ys[j]? = some y ∧ Tr enc w n' f.type [v] = some y := by
  obtain ⟨ys, n', hn', hy, hlen, hyl, hf⟩ := DataW.trod_struct ht h
  rw [hC] at hlen
  refine ⟨hlen, ys, n', ?_, hyl, fun j f hj => ?_⟩
  · rw [hy]
    show Rows.uptoBulk (.agg (ys.map (·.1))) = _
    rw [bulk_agg, bulkAll_sum, List.map_map]; rfl
  · obtain ⟨ho, hk⟩ := Go.Deep.hone_of hone j f hj
    have hjl : j < fs.size := (Array.getElem?_eq_some_iff.1 hj).1
    have h1 := hf j f hj
    rw [ho, hk] at h1
    have hone' : (cs.drop j).take 1 = [cs[j]'(by omega)] := by
      rw [List.drop_eq_getElem_cons (by omega)]; rfl
    rw [hone'] at h1
    have hys : ys[j]? = some (ys[j]'(by omega)) := List.getElem?_eq_getElem (by omega)
    exact ⟨_, _, List.getElem?_eq_getElem (by omega), hys, h1.trans hys⟩
theorem bulk_part {ys : List (DataW H × List MemPlace)} {j : Nat} {y : DataW H × List MemPlace} (h : ys[j]? = some y) : Rows.uptoBulk y.1 ≤ (ys.map fun y => Rows.uptoBulk y.1).sum := by
  have hj : j < ys.length := by
    rcases Nat.lt_or_ge j ys.length with h' | h'
    · exact h'
    · rw [List.getElem?_eq_none h'] at h; cases h
  have := sum_get_le (fun y : DataW H × List MemPlace => Rows.uptoBulk y.1) hj
  rw [List.getElem?_eq_getElem hj] at h
  cases h
  omega
theorem cell_at {q : Addr} {sz : Nat} {cs : List Value} (hc : w.cells? 0 q sz = some cs) {j : Nat} {v : Value} (hj : j < sz) (hv : cs[j]? = some v) : w.cell? (q.add j) = some v := by
  obtain ⟨_, _, hat⟩ := World.cells?_some hc
  rw [hat j hj, hv]
/-- One number. -/
theorem int_leaf {t : TypeId} {k : IntKind} (ht : Program.underlying Tryd.prog t = some (.int k)) {n : Nat} {v : Value} {x : DataW H × List MemPlace} (h : Tr enc w n t [v] = some x) : ∃ i : Int, v = .int k i ∧ Rows.uptoBulk x.1 = 1 ∧ k.min ≤ i ∧ i ≤ k.max := by
  obtain ⟨i, hv, rfl, hw⟩ := DataW.trod_int ht h
  simp only [List.cons.injEq, and_true] at hv
  refine ⟨i, hv, bulk_int _ _, ?_⟩
  simpa [Lit.wf] using hw
theorem bool_leaf {t : TypeId} (ht : Program.underlying Tryd.prog t = some .bool) {n : Nat} {v : Value} {x : DataW H × List MemPlace} (h : Tr enc w n t [v] = some x) : ∃ b : Bool, v = .bool b ∧ Rows.uptoBulk x.1 = 1 := by
  obtain ⟨b, hv, rfl⟩ := DataW.trod_bool ht h
  simp only [List.cons.injEq, and_true] at hv
  exact ⟨b, hv, bulk_bool _⟩
theorem str_leaf {t : TypeId} (ht : Program.underlying Tryd.prog t = some .string) {n : Nat} {v : Value} {x : DataW H × List MemPlace} (h : Tr enc w n t [v] = some x) : ∃ s : ByteArray, v = .string s ∧ Rows.uptoBulk x.1 = s.size + 1 := by
  obtain ⟨s, hv, rfl, hs⟩ := DataW.trod_string ht h
  simp only [List.cons.injEq, and_true] at hv
  refine ⟨s, hv, ?_⟩
  show Rows.uptoBulk (.lit (.string s.data.toList)) = _
  rw [bulk_str, Array.length_toList]; rfl
end
end Go.Proofs.YtacjnpahlbibhaaDoor
end
section
/- The parts of a module, opened. (mkOpenB.py printed this) -/
set_option linter.unusedVariables false
set_option linter.unusedSimpArgs false
set_option maxRecDepth 100000
namespace Go.Proofs.YtacjnpahlbibhaaDoor
open Go Go.RowKit

section
variable {H : Type} {enc : TypeId × Value → H} {w : World}
theorem int_opensC (c : Nat) (hc100 : c ≤ 100) : Opens enc w 3 1 (IntR .i64) (fun _ => c) := by
  intro n q cs x hc h hB
  obtain ⟨i, rfl, rfl, hw⟩ := DataW.trod_int (show Program.underlying Tryd.prog 3 = some (.int .i64) from und_3) h
  refine ⟨i, ?_, by show c ≤ 100 * Rows.uptoBulk _; rw [bulk_int]; omega⟩
  have := cell_at hc (j := 0) (v := .int .i64 i) (by omega) rfl
  rw [add_zero] at this
  exact this
theorem int_opens : Opens enc w 3 1 (IntR .i64) (fun _ => 10) := int_opensC 10 (by omega)
theorem byte_opens : Opens enc w 5 1 (IntR .u8) (fun _ => 1) := by
  intro n q cs x hc h hB
  obtain ⟨i, rfl, rfl, hw⟩ := DataW.trod_int (show Program.underlying Tryd.prog 5 = some (.int .u8) from und_5) h
  refine ⟨i, ?_, by show 1 ≤ 100 * Rows.uptoBulk _; rw [bulk_int]; omega⟩
  have := cell_at hc (j := 0) (v := .int .u8 i) (by omega) rfl
  rw [add_zero] at this
  exact this
theorem ints_open {n : Nat} {v : Value} {x : DataW H × List MemPlace} (h : Tr enc w n 24 [v] = some x) (hB : Rows.uptoBulk x.1 ≤ 1048576) : ∃ (s : Sl) (ys : List Int), v = s.v ∧ Ints w.cell? s ys ∧ ys.length + 1 ≤ Rows.uptoBulk x.1 := by
  obtain ⟨s, ys, h1, h2, h3⟩ := slice_opens tyf_sl_int.und (by kernel_rfl) (int_opensC 100 (by omega)) h hB
  refine ⟨s, ys, h1, h2, ?_⟩
  have : msum (fun _ => 100) ys = 100 * ys.length := by unfold msum; rw [List.map_const', List.sum_replicate_nat]; omega
  omega
theorem bytes_open {n : Nat} {v : Value} {x : DataW H × List MemPlace} (h : Tr enc w n 59 [v] = some x) (hB : Rows.uptoBulk x.1 ≤ 1048576) : ∃ (s : Sl) (ys : List Int), v = s.v ∧ Bytes w.cell? s ys ∧ ys.length + 100 ≤ 100 * Rows.uptoBulk x.1 := by
  obtain ⟨s, ys, h1, h2, h3⟩ := slice_opens tyf_sl_uint8.und (by kernel_rfl) byte_opens h hB
  refine ⟨s, ys, h1, h2, ?_⟩
  have : msum (fun _ => 1) ys = ys.length := by unfold msum; rw [List.map_const', List.sum_replicate_nat]; omega
  omega
theorem code_open0 (hi : Opens enc w 40 6 InstrR instrW) {n : Nat} {v : Value} {x : DataW H × List MemPlace} (h : Tr enc w n 41 [v] = some x) (hB : Rows.uptoBulk x.1 ≤ 1048576) : ∃ (s : Sl) (ys : List Instr), v = s.v ∧ CodeR w.cell? s ys ∧ codeW ys + 100 ≤ 100 * Rows.uptoBulk x.1 :=
  slice_opens tyf_sl_Instr.und (by kernel_rfl) hi h hB
theorem instr_opens : Opens enc w 40 6 InstrR instrW := by
  intro n q cs x hc h hB
  obtain ⟨hlen, ys, n', hbk, hyl, hf⟩ := fields_open Tryd.underlying40 (by kernel_rfl) (by kernel_rfl) h
  obtain ⟨v0, y0, hv0, hy0, ht0⟩ := hf 0 _ rfl
  obtain ⟨v1, y1, hv1, hy1, ht1⟩ := hf 1 _ rfl
  obtain ⟨v2, y2, hv2, hy2, ht2⟩ := hf 2 _ rfl
  obtain ⟨v3, y3, hv3, hy3, ht3⟩ := hf 3 _ rfl
  obtain ⟨v4, y4, hv4, hy4, ht4⟩ := hf 4 _ rfl
  obtain ⟨v5, y5, hv5, hy5, ht5⟩ := hf 5 _ rfl
  match ys, hyl with
  | [z0, z1, z2, z3, z4, z5], _ =>
    simp only [List.getElem?_cons_zero, List.getElem?_cons_succ, Option.some.injEq] at hy0
    subst hy0
    simp only [List.getElem?_cons_zero, List.getElem?_cons_succ, Option.some.injEq] at hy1
    subst hy1
    simp only [List.getElem?_cons_zero, List.getElem?_cons_succ, Option.some.injEq] at hy2
    subst hy2
    simp only [List.getElem?_cons_zero, List.getElem?_cons_succ, Option.some.injEq] at hy3
    subst hy3
    simp only [List.getElem?_cons_zero, List.getElem?_cons_succ, Option.some.injEq] at hy4
    subst hy4
    simp only [List.getElem?_cons_zero, List.getElem?_cons_succ, Option.some.injEq] at hy5
    subst hy5
    simp only [List.map_cons, List.map_nil, List.sum_cons, List.sum_nil, Nat.add_zero] at hbk
    have c0 := cell_at hc (j := 0) (by omega) hv0
    obtain ⟨a0, rfl, b0, m0⟩ := int_leaf (t := 3) (k := .i64) (by kernel_rfl) ht0
    have c1 := cell_at hc (j := 1) (by omega) hv1
    obtain ⟨a1, rfl, b1, m1⟩ := int_leaf (t := 3) (k := .i64) (by kernel_rfl) ht1
    have c2 := cell_at hc (j := 2) (by omega) hv2
    obtain ⟨a2, rfl, b2, m2⟩ := int_leaf (t := 3) (k := .i64) (by kernel_rfl) ht2
    have c3 := cell_at hc (j := 3) (by omega) hv3
    obtain ⟨a3, rfl, b3, m3⟩ := int_leaf (t := 38) (k := .u64) (by kernel_rfl) ht3
    have c4 := cell_at hc (j := 4) (by omega) hv4
    obtain ⟨a4, rfl, b4, m4⟩ := int_leaf (t := 38) (k := .u64) (by kernel_rfl) ht4
    have c5 := cell_at hc (j := 5) (by omega) hv5
    obtain ⟨s5, a5, rfl, r5, b5⟩ := ints_open ht5 (by omega)
    refine ⟨⟨a0, a1, a2, a3, a4, a5⟩, ⟨c0, c1, c2, c3, c4, s5, c5, r5, ?_⟩, by unfold instrW; simp only; omega⟩
    have e1 : IntKind.min .i64 = -9223372036854775808 := by decide
    have e2 : IntKind.max .i64 = 9223372036854775807 := by decide
    rw [e1, e2] at m1
    simp only
    omega
theorem code_open {n : Nat} {v : Value} {x : DataW H × List MemPlace} (h : Tr enc w n 41 [v] = some x) (hB : Rows.uptoBulk x.1 ≤ 1048576) : ∃ (s : Sl) (ys : List Instr), v = s.v ∧ CodeR w.cell? s ys ∧ codeW ys + 100 ≤ 100 * Rows.uptoBulk x.1 :=
  code_open0 instr_opens h hB
theorem sig_opens : Opens enc w 37 2 SigR sigW := by
  intro n q cs x hc h hB
  obtain ⟨hlen, ys, n', hbk, hyl, hf⟩ := fields_open Tryd.underlying37 (by kernel_rfl) (by kernel_rfl) h
  obtain ⟨v0, y0, hv0, hy0, ht0⟩ := hf 0 _ rfl
  obtain ⟨v1, y1, hv1, hy1, ht1⟩ := hf 1 _ rfl
  match ys, hyl with
  | [z0, z1], _ =>
    simp only [List.getElem?_cons_zero, List.getElem?_cons_succ, Option.some.injEq] at hy0
    subst hy0
    simp only [List.getElem?_cons_zero, List.getElem?_cons_succ, Option.some.injEq] at hy1
    subst hy1
    simp only [List.map_cons, List.map_nil, List.sum_cons, List.sum_nil, Nat.add_zero] at hbk
    have c0 := cell_at hc (j := 0) (by omega) hv0
    obtain ⟨s0, a0, rfl, r0, b0⟩ := ints_open ht0 (by omega)
    have c1 := cell_at hc (j := 1) (by omega) hv1
    obtain ⟨s1, a1, rfl, r1, b1⟩ := ints_open ht1 (by omega)
    exact ⟨⟨a0, a1⟩, ⟨s0, s1, c0, c1, r0, r1, by simp only; omega, by simp only; omega⟩, by unfold sigW; simp only; omega⟩
theorem import_opens : Opens enc w 66 3 ImportR importW := by
  intro n q cs x hc h hB
  obtain ⟨hlen, ys, n', hbk, hyl, hf⟩ := fields_open Tryd.underlying66 (by kernel_rfl) (by kernel_rfl) h
  obtain ⟨v0, y0, hv0, hy0, ht0⟩ := hf 0 _ rfl
  obtain ⟨v1, y1, hv1, hy1, ht1⟩ := hf 1 _ rfl
  obtain ⟨v2, y2, hv2, hy2, ht2⟩ := hf 2 _ rfl
  match ys, hyl with
  | [z0, z1, z2], _ =>
    simp only [List.getElem?_cons_zero, List.getElem?_cons_succ, Option.some.injEq] at hy0
    subst hy0
    simp only [List.getElem?_cons_zero, List.getElem?_cons_succ, Option.some.injEq] at hy1
    subst hy1
    simp only [List.getElem?_cons_zero, List.getElem?_cons_succ, Option.some.injEq] at hy2
    subst hy2
    simp only [List.map_cons, List.map_nil, List.sum_cons, List.sum_nil, Nat.add_zero] at hbk
    have c0 := cell_at hc (j := 0) (by omega) hv0
    obtain ⟨a0, rfl, b0⟩ := str_leaf (t := 9) (by kernel_rfl) ht0
    have c1 := cell_at hc (j := 1) (by omega) hv1
    obtain ⟨a1, rfl, b1⟩ := str_leaf (t := 9) (by kernel_rfl) ht1
    have c2 := cell_at hc (j := 2) (by omega) hv2
    obtain ⟨a2, rfl, b2, m2⟩ := int_leaf (t := 3) (k := .i64) (by kernel_rfl) ht2
    exact ⟨⟨a0, a1, a2⟩, ⟨c0, c1, c2⟩, by unfold importW; simp only; omega⟩
theorem limits_opens : Opens enc w 87 2 LimitsR (fun _ => 60) := by
  intro n q cs x hc h hB
  obtain ⟨hlen, ys, n', hbk, hyl, hf⟩ := fields_open Tryd.underlying87 (by kernel_rfl) (by kernel_rfl) h
  obtain ⟨v0, y0, hv0, hy0, ht0⟩ := hf 0 _ rfl
  obtain ⟨v1, y1, hv1, hy1, ht1⟩ := hf 1 _ rfl
  match ys, hyl with
  | [z0, z1], _ =>
    simp only [List.getElem?_cons_zero, List.getElem?_cons_succ, Option.some.injEq] at hy0
    subst hy0
    simp only [List.getElem?_cons_zero, List.getElem?_cons_succ, Option.some.injEq] at hy1
    subst hy1
    simp only [List.map_cons, List.map_nil, List.sum_cons, List.sum_nil, Nat.add_zero] at hbk
    have c0 := cell_at hc (j := 0) (by omega) hv0
    obtain ⟨a0, rfl, b0, m0⟩ := int_leaf (t := 3) (k := .i64) (by kernel_rfl) ht0
    have c1 := cell_at hc (j := 1) (by omega) hv1
    obtain ⟨a1, rfl, b1, m1⟩ := int_leaf (t := 3) (k := .i64) (by kernel_rfl) ht1
    exact ⟨⟨a0, a1⟩, ⟨c0, c1⟩, by show 60 ≤ 100 * _; omega⟩
theorem global_opens : Opens enc w 43 3 GlobalR globalW := by
  intro n q cs x hc h hB
  obtain ⟨hlen, ys, n', hbk, hyl, hf⟩ := fields_open Tryd.underlying43 (by kernel_rfl) (by kernel_rfl) h
  obtain ⟨v0, y0, hv0, hy0, ht0⟩ := hf 0 _ rfl
  obtain ⟨v1, y1, hv1, hy1, ht1⟩ := hf 1 _ rfl
  obtain ⟨v2, y2, hv2, hy2, ht2⟩ := hf 2 _ rfl
  match ys, hyl with
  | [z0, z1, z2], _ =>
    simp only [List.getElem?_cons_zero, List.getElem?_cons_succ, Option.some.injEq] at hy0
    subst hy0
    simp only [List.getElem?_cons_zero, List.getElem?_cons_succ, Option.some.injEq] at hy1
    subst hy1
    simp only [List.getElem?_cons_zero, List.getElem?_cons_succ, Option.some.injEq] at hy2
    subst hy2
    simp only [List.map_cons, List.map_nil, List.sum_cons, List.sum_nil, Nat.add_zero] at hbk
    have c0 := cell_at hc (j := 0) (by omega) hv0
    obtain ⟨a0, rfl, b0, m0⟩ := int_leaf (t := 3) (k := .i64) (by kernel_rfl) ht0
    have c1 := cell_at hc (j := 1) (by omega) hv1
    obtain ⟨a1, rfl, b1⟩ := bool_leaf (t := 4) (by kernel_rfl) ht1
    have c2 := cell_at hc (j := 2) (by omega) hv2
    obtain ⟨s2, a2, rfl, r2, b2⟩ := code_open ht2 (by omega)
    exact ⟨⟨a0, a1, a2⟩, ⟨c0, c1, s2, c2, r2⟩, by unfold globalW; simp only; omega⟩
theorem export_opens : Opens enc w 71 3 ExportR exportW := by
  intro n q cs x hc h hB
  obtain ⟨hlen, ys, n', hbk, hyl, hf⟩ := fields_open Tryd.underlying71 (by kernel_rfl) (by kernel_rfl) h
  obtain ⟨v0, y0, hv0, hy0, ht0⟩ := hf 0 _ rfl
  obtain ⟨v1, y1, hv1, hy1, ht1⟩ := hf 1 _ rfl
  obtain ⟨v2, y2, hv2, hy2, ht2⟩ := hf 2 _ rfl
  match ys, hyl with
  | [z0, z1, z2], _ =>
    simp only [List.getElem?_cons_zero, List.getElem?_cons_succ, Option.some.injEq] at hy0
    subst hy0
    simp only [List.getElem?_cons_zero, List.getElem?_cons_succ, Option.some.injEq] at hy1
    subst hy1
    simp only [List.getElem?_cons_zero, List.getElem?_cons_succ, Option.some.injEq] at hy2
    subst hy2
    simp only [List.map_cons, List.map_nil, List.sum_cons, List.sum_nil, Nat.add_zero] at hbk
    have c0 := cell_at hc (j := 0) (by omega) hv0
    obtain ⟨a0, rfl, b0⟩ := str_leaf (t := 9) (by kernel_rfl) ht0
    have c1 := cell_at hc (j := 1) (by omega) hv1
    obtain ⟨a1, rfl, b1, m1⟩ := int_leaf (t := 3) (k := .i64) (by kernel_rfl) ht1
    have c2 := cell_at hc (j := 2) (by omega) hv2
    obtain ⟨a2, rfl, b2, m2⟩ := int_leaf (t := 3) (k := .i64) (by kernel_rfl) ht2
    exact ⟨⟨a0, a1, a2⟩, ⟨c0, c1, c2⟩, by unfold exportW; simp only; omega⟩
theorem elem_opens : Opens enc w 97 2 ElemR elemW := by
  intro n q cs x hc h hB
  obtain ⟨hlen, ys, n', hbk, hyl, hf⟩ := fields_open Tryd.underlying97 (by kernel_rfl) (by kernel_rfl) h
  obtain ⟨v0, y0, hv0, hy0, ht0⟩ := hf 0 _ rfl
  obtain ⟨v1, y1, hv1, hy1, ht1⟩ := hf 1 _ rfl
  match ys, hyl with
  | [z0, z1], _ =>
    simp only [List.getElem?_cons_zero, List.getElem?_cons_succ, Option.some.injEq] at hy0
    subst hy0
    simp only [List.getElem?_cons_zero, List.getElem?_cons_succ, Option.some.injEq] at hy1
    subst hy1
    simp only [List.map_cons, List.map_nil, List.sum_cons, List.sum_nil, Nat.add_zero] at hbk
    have c0 := cell_at hc (j := 0) (by omega) hv0
    obtain ⟨s0, a0, rfl, r0, b0⟩ := code_open ht0 (by omega)
    have c1 := cell_at hc (j := 1) (by omega) hv1
    obtain ⟨s1, a1, rfl, r1, b1⟩ := ints_open ht1 (by omega)
    exact ⟨⟨a0, a1⟩, ⟨s0, s1, c0, c1, r0, r1, by simp only; omega⟩, by unfold elemW; simp only; omega⟩
theorem fcode_opens : Opens enc w 46 2 FCodeR fcodeW := by
  intro n q cs x hc h hB
  obtain ⟨hlen, ys, n', hbk, hyl, hf⟩ := fields_open Tryd.underlying46 (by kernel_rfl) (by kernel_rfl) h
  obtain ⟨v0, y0, hv0, hy0, ht0⟩ := hf 0 _ rfl
  obtain ⟨v1, y1, hv1, hy1, ht1⟩ := hf 1 _ rfl
  match ys, hyl with
  | [z0, z1], _ =>
    simp only [List.getElem?_cons_zero, List.getElem?_cons_succ, Option.some.injEq] at hy0
    subst hy0
    simp only [List.getElem?_cons_zero, List.getElem?_cons_succ, Option.some.injEq] at hy1
    subst hy1
    simp only [List.map_cons, List.map_nil, List.sum_cons, List.sum_nil, Nat.add_zero] at hbk
    have c0 := cell_at hc (j := 0) (by omega) hv0
    obtain ⟨s0, a0, rfl, r0, b0⟩ := ints_open ht0 (by omega)
    have c1 := cell_at hc (j := 1) (by omega) hv1
    obtain ⟨s1, a1, rfl, r1, b1⟩ := code_open ht1 (by omega)
    exact ⟨⟨a0, a1⟩, ⟨s0, s1, c0, c1, r0, r1⟩, by unfold fcodeW; simp only; omega⟩
theorem data_opens : Opens enc w 104 2 DataR dataW := by
  intro n q cs x hc h hB
  obtain ⟨hlen, ys, n', hbk, hyl, hf⟩ := fields_open Tryd.underlying104 (by kernel_rfl) (by kernel_rfl) h
  obtain ⟨v0, y0, hv0, hy0, ht0⟩ := hf 0 _ rfl
  obtain ⟨v1, y1, hv1, hy1, ht1⟩ := hf 1 _ rfl
  match ys, hyl with
  | [z0, z1], _ =>
    simp only [List.getElem?_cons_zero, List.getElem?_cons_succ, Option.some.injEq] at hy0
    subst hy0
    simp only [List.getElem?_cons_zero, List.getElem?_cons_succ, Option.some.injEq] at hy1
    subst hy1
    simp only [List.map_cons, List.map_nil, List.sum_cons, List.sum_nil, Nat.add_zero] at hbk
    have c0 := cell_at hc (j := 0) (by omega) hv0
    obtain ⟨s0, a0, rfl, r0, b0⟩ := code_open ht0 (by omega)
    have c1 := cell_at hc (j := 1) (by omega) hv1
    obtain ⟨s1, a1, rfl, r1, b1⟩ := bytes_open ht1 (by omega)
    exact ⟨⟨a0, a1⟩, ⟨s0, s1, c0, c1, r0, r1⟩, by unfold dataW; simp only; omega⟩
theorem msum_len {α : Type} {wt : α → Nat} (h1 : ∀ x, 10 ≤ wt x) (l : List α) : 10 * l.length ≤ msum wt l := by
  unfold msum
  induction l with
  | nil => simp
  | cons a r ih => have := h1 a; simp only [List.map_cons, List.sum_cons, List.length_cons]; omega
/-- A module as an argument. -/
theorem module_open {v : Value} {base : Nat} (hv : Value.okWide Tryd.prog w .any base 32 v) {d : DataW H} {p : List MemPlace} (h : DataW.Trod enc Tryd.prog w 0 (fun _ => true) true 32 v d p) (hB : Rows.uptoBulk d ≤ 1048576) :
    ∃ (S : MSl) (m : Module), v = ModV S m ∧ ModR w.cell? S m ∧ ModW m ∧ Small m ∧ (-9223372036854775808 ≤ m.start ∧ m.start ≤ 9223372036854775807) ∧ (∀ x ∈ m.codes, 100 + 11 * x.locals.length + codeW x.body ≤ 104857600) ∧ 1000 + msum sigW m.types + msum importW m.imports + msum (fun _ => 10) m.funcs + msum (fun _ => 60) m.tables + msum (fun _ => 60) m.mems + msum globalW m.globals + msum exportW m.exports + msum elemW m.elems + msum fcodeW m.codes + msum dataW m.datas ≤ 110000000 := by
  obtain ⟨cells, rfl, hsz⟩ := Go.WideShapes.okWide_struct Tryd.underlying32 hv
  obtain ⟨n, h⟩ := h
  obtain ⟨hlen, ys, n', hbk, hyl, hf⟩ := fields_open Tryd.underlying32 (by kernel_rfl) (by kernel_rfl) h
  obtain ⟨cs⟩ := cells
  simp only [Value.cells] at hlen hf
  obtain ⟨v0, y0, hv0, hy0, ht0⟩ := hf 0 _ rfl
  obtain ⟨v1, y1, hv1, hy1, ht1⟩ := hf 1 _ rfl
  obtain ⟨v2, y2, hv2, hy2, ht2⟩ := hf 2 _ rfl
  obtain ⟨v3, y3, hv3, hy3, ht3⟩ := hf 3 _ rfl
  obtain ⟨v4, y4, hv4, hy4, ht4⟩ := hf 4 _ rfl
  obtain ⟨v5, y5, hv5, hy5, ht5⟩ := hf 5 _ rfl
  obtain ⟨v6, y6, hv6, hy6, ht6⟩ := hf 6 _ rfl
  obtain ⟨v7, y7, hv7, hy7, ht7⟩ := hf 7 _ rfl
  obtain ⟨v8, y8, hv8, hy8, ht8⟩ := hf 8 _ rfl
  obtain ⟨v9, y9, hv9, hy9, ht9⟩ := hf 9 _ rfl
  obtain ⟨v10, y10, hv10, hy10, ht10⟩ := hf 10 _ rfl
  match ys, hyl with
  | [z0, z1, z2, z3, z4, z5, z6, z7, z8, z9, z10], _ =>
    simp only [List.getElem?_cons_zero, List.getElem?_cons_succ, Option.some.injEq] at hy0
    subst hy0
    simp only [List.getElem?_cons_zero, List.getElem?_cons_succ, Option.some.injEq] at hy1
    subst hy1
    simp only [List.getElem?_cons_zero, List.getElem?_cons_succ, Option.some.injEq] at hy2
    subst hy2
    simp only [List.getElem?_cons_zero, List.getElem?_cons_succ, Option.some.injEq] at hy3
    subst hy3
    simp only [List.getElem?_cons_zero, List.getElem?_cons_succ, Option.some.injEq] at hy4
    subst hy4
    simp only [List.getElem?_cons_zero, List.getElem?_cons_succ, Option.some.injEq] at hy5
    subst hy5
    simp only [List.getElem?_cons_zero, List.getElem?_cons_succ, Option.some.injEq] at hy6
    subst hy6
    simp only [List.getElem?_cons_zero, List.getElem?_cons_succ, Option.some.injEq] at hy7
    subst hy7
    simp only [List.getElem?_cons_zero, List.getElem?_cons_succ, Option.some.injEq] at hy8
    subst hy8
    simp only [List.getElem?_cons_zero, List.getElem?_cons_succ, Option.some.injEq] at hy9
    subst hy9
    simp only [List.getElem?_cons_zero, List.getElem?_cons_succ, Option.some.injEq] at hy10
    subst hy10
    simp only [List.map_cons, List.map_nil, List.sum_cons, List.sum_nil, Nat.add_zero] at hbk
    obtain ⟨s0, a0, rfl, r0, b0⟩ := slice_opens (R := SigR) (wt := sigW) (t := 22) (e := 37) (sz := 2) (by kernel_rfl) (by kernel_rfl) sig_opens ht0 (by omega)
    obtain ⟨s1, a1, rfl, r1, b1⟩ := slice_opens (R := ImportR) (wt := importW) (t := 23) (e := 66) (sz := 3) (by kernel_rfl) (by kernel_rfl) import_opens ht1 (by omega)
    obtain ⟨s2, a2, rfl, r2, b2⟩ := slice_opens (R := FuncR) (wt := (fun _ => 10)) (t := 24) (e := 3) (sz := 1) (by kernel_rfl) (by kernel_rfl) int_opens ht2 (by omega)
    obtain ⟨s3, a3, rfl, r3, b3⟩ := slice_opens (R := LimitsR) (wt := (fun _ => 60)) (t := 25) (e := 87) (sz := 2) (by kernel_rfl) (by kernel_rfl) limits_opens ht3 (by omega)
    obtain ⟨s4, a4, rfl, r4, b4⟩ := slice_opens (R := LimitsR) (wt := (fun _ => 60)) (t := 25) (e := 87) (sz := 2) (by kernel_rfl) (by kernel_rfl) limits_opens ht4 (by omega)
    obtain ⟨s5, a5, rfl, r5, b5⟩ := slice_opens (R := GlobalR) (wt := globalW) (t := 26) (e := 43) (sz := 3) (by kernel_rfl) (by kernel_rfl) global_opens ht5 (by omega)
    obtain ⟨s6, a6, rfl, r6, b6⟩ := slice_opens (R := ExportR) (wt := exportW) (t := 27) (e := 71) (sz := 3) (by kernel_rfl) (by kernel_rfl) export_opens ht6 (by omega)
    obtain ⟨a7, rfl, b7, m7⟩ := int_leaf (t := 3) (k := .i64) (by kernel_rfl) ht7
    obtain ⟨s8, a8, rfl, r8, b8⟩ := slice_opens (R := ElemR) (wt := elemW) (t := 28) (e := 97) (sz := 2) (by kernel_rfl) (by kernel_rfl) elem_opens ht8 (by omega)
    obtain ⟨s9, a9, rfl, r9, b9⟩ := slice_opens (R := FCodeR) (wt := fcodeW) (t := 29) (e := 46) (sz := 2) (by kernel_rfl) (by kernel_rfl) fcode_opens ht9 (by omega)
    obtain ⟨s10, a10, rfl, r10, b10⟩ := slice_opens (R := DataR) (wt := dataW) (t := 30) (e := 104) (sz := 2) (by kernel_rfl) (by kernel_rfl) data_opens ht10 (by omega)
    have hcs : cs = [s0.v, s1.v, s2.v, s3.v, s4.v, s5.v, s6.v, .int .i64 a7, s8.v, s9.v, s10.v] := by
      have hl11 : cs.length = 11 := hlen
      match cs, hl11 with
      | [d0, d1, d2, d3, d4, d5, d6, d7, d8, d9, d10], _ =>
        simp only [List.getElem?_toArray, List.getElem?_cons_zero, List.getElem?_cons_succ, Option.some.injEq] at hv0 hv1 hv2 hv3 hv4 hv5 hv6 hv7 hv8 hv9 hv10
        rw [hv0, hv1, hv2, hv3, hv4, hv5, hv6, hv7, hv8, hv9, hv10]
    subst hcs
    have l0 := msum_len (wt := sigW) (fun x => by unfold sigW; omega) a0
    have l1 := msum_len (wt := importW) (fun x => by unfold importW; omega) a1
    have l2 := msum_len (wt := fun _ => 10) (fun x => Nat.le_refl _) a2
    have l3 := msum_len (wt := fun _ => 60) (fun x => by omega) a3
    have l4 := msum_len (wt := fun _ => 60) (fun x => by omega) a4
    have l5 := msum_len (wt := globalW) (fun x => by unfold globalW; omega) a5
    have l6 := msum_len (wt := exportW) (fun x => by unfold exportW; omega) a6
    have l8 := msum_len (wt := elemW) (fun x => by unfold elemW; omega) a8
    have l9 := msum_len (wt := fcodeW) (fun x => by unfold fcodeW; omega) a9
    have l10 := msum_len (wt := dataW) (fun x => by unfold dataW; omega) a10
    have e1 : IntKind.min .i64 = -9223372036854775808 := by decide
    have e2 : IntKind.max .i64 = 9223372036854775807 := by decide
    rw [e1, e2] at m7
    have hcodes : ∀ x ∈ a9, 100 + 11 * x.locals.length + codeW x.body ≤ 104857600 := by
      intro x hx
      have := msum_mem fcodeW hx
      unfold fcodeW at this
      unfold fcodeW at b9
      omega
    refine ⟨⟨s0, s1, s2, s3, s4, s5, s6, s8, s9, s10⟩, ⟨a0, a1, a2, a3, a4, a5, a6, a7, a8, a9, a10⟩, rfl, ⟨r0, r1, r2, r3, r4, r5, r6, r8, r9, r10⟩, ⟨by unfold big; simp only; omega, by simp only; omega, by simp only; omega, by simp only; omega, by simp only; omega, by simp only; omega, by simp only; omega, by simp only; omega, by simp only; omega, by simp only; omega, by simp only; omega⟩, ?_, m7, hcodes, by simp only; omega⟩
    intro c hc
    have := hcodes c hc
    omega
end
end Go.Proofs.YtacjnpahlbibhaaDoor
end

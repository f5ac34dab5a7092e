import Derived.Test.YtacjnpahlbibhaaDoorEncH
import Derived.Test.YtacjnpahlbibhaaDoorWkN
section
/- Contracts: slices.Clone, Equal. -/
set_option linter.unusedVariables false
set_option linter.unusedSimpArgs false
set_option maxRecDepth 100000
namespace Go.Proofs.YtacjnpahlbibhaaDoor
open Go Go.RowKit

/-- New numbers in memory of their own. -/
structure Nint (W0 W : World) (s : Sl) (xs : List Int) : Prop where
  own : Own W ty_int 1 s (iv xs)
  mod : Mod NoB W0 W
  fresh : ∀ b, s.isB b → W0.heap.size ≤ b
theorem Nint.mod0 {W0 W W' : World} {s : Sl} {xs : List Int} (h : Nint W0 W s xs) (m : Mod NoB W W') : Nint W0 W' s xs := ⟨h.own.mod0 m, h.mod.trans0 m, h.fresh⟩
theorem Nint.app {W0 W : World} {s : Sl} {xs : List Int} (h : Nint W0 W s xs) {t : Value} {tx ty : TypeId} {ys : List Int} (hs : Src Tryd.prog 1 tx t ys.length (iv ys) W) (hl : xs.length + ys.length ≤ big) {K : Value → World → Prop}
    (hk : ∀ s' W', Nint W0 W' s' (xs ++ ys) → Mod s.isB W W' → (∀ b, s'.isB b → s.isB b ∨ W.heap.size ≤ b) → K s'.v W') : RunV Tryd.prog (Builtin.append_ #[ty_sl_int, tx] ty #[s.v, t]) W K := by
  refine app_ints h.own hs hl (fun s' W' ho hm hb => hk s' W' ⟨ho, h.mod.trans hm (fun i hi hs => by have := h.fresh i hs; omega), fun b hb' => ?_⟩ hm hb)
  have := h.mod.size
  rcases hb b hb' with h' | h'
  · exact h.fresh b h'
  · omega
theorem Clone_spec {W : World} {r : Rd} (hr : Sub r W) {s : Sl} {xs : List Int} (hx : Ints r s xs) (hl : xs.length ≤ big) :
    Calls Tryd.prog f_slices_Clone_int #[s.v] W fun e W' => ∃ t : Sl, e = .returned t.v ∧ Nint W W' t xs := by
  refine of_slices_Clone_int _ _ _ ?_
  unfold V_slices_Clone_int
  refine Br.mk (fun hn => ?_) (fun hn => ?_)
  · have : xs = [] := by
      cases xs with
      | nil => rfl
      | cons a l =>
        obtain ⟨q, hq, _⟩ := hx.2 0 a rfl
        rw [hq] at hn; cases hn
    subst this
    exact ⟨⟨none, 0, 0⟩, rfl, Own.nil _ _ _, Mod.refl _ _, fun b hb => absurd hb (nil_notB b)⟩
  · refine Na.mk fun b W1 hb hm hs hc => ?_
    have h1 : Nint W W1 ⟨some ⟨b, 0, none⟩, 0, 0⟩ [] := by
      refine ⟨⟨rfl, .inr ⟨b, _, _, rfl, hc, .inl rfl, Nat.le_refl _, Nat.zero_le _, rfl, rfl⟩⟩, hm, ?_⟩
      rintro b' ⟨q, hq, rfl⟩; cases hq; show W.heap.size ≤ b; omega
    refine h1.app (hx.src (hr.mod0 hm)) (by simpa using hl) (fun s' W2 h2 m2 g2 => ⟨s', rfl, s', rfl, ?_⟩)
    simpa using h2
theorem Equal_spec {W : World} {r : Rd} (hr : Sub r W) {s t : Sl} {xs ys : List Int} (hx : Ints r s xs) (hy : Ints r t ys) (hl : xs.length ≤ big) :
    Calls Tryd.prog f_slices_Equal_int #[s.v, t.v] W fun e W' => e = .returned (.bool (decide (xs = ys))) ∧ Mod NoB W W' := by
  refine of_slices_Equal_int _ _ _ _ ?_
  unfold V_slices_Equal_int
  unfold big at hl
  refine Br.ne (fun hne => ⟨?_, Mod.refl _ _⟩) (fun heq => ?_)
  · rw [decide_eq_false (fun e => hne (by rw [hx.1, hy.1, e]))]
  · have hlen : xs.length = ys.length := by have := hx.1; have := hy.1; omega
    intro L hL
    have key : ∀ (n k : Nat) (W1 : World), n = xs.length - k → k ≤ xs.length → (∀ i, i < k → xs[i]? = ys[i]?) → Mod NoB W W1 → L (k : Int) W1 := by
      intro n
      induction n with
      | zero =>
        intro k W1 hn hk hall hm
        refine hL _ _ (Br.dec (fun h => by rw [hx.1] at h; omega) (fun _ => ⟨?_, hm⟩))
        rw [decide_eq_true]
        apply List.ext_getElem?
        intro i
        by_cases hi : i < k
        · exact hall i hi
        · rw [List.getElem?_eq_none (by omega), List.getElem?_eq_none (by omega)]
      | succ n ih =>
        intro k W1 hn hk hall hm
        have hlt : k < xs.length := by omega
        refine hL _ _ (Br.dec (fun _ => ?_) (fun hge => absurd (by rw [hx.1]; omega) hge))
        refine Dw.mk fun W2 hm2 _ => ?_
        obtain ⟨q, hq, hc⟩ := hx.get hlt
        obtain ⟨p, hp, hd⟩ := hy.get (show k < ys.length by omega)
        have hs := (hr.mod0 hm).mod0 hm2
        refine ⟨q, ⟨hq, by omega, by rw [hx.1]; omega⟩, _, hs _ _ hc, p, ⟨hp, by omega, by rw [hy.1]; omega⟩, _, hs _ _ hd, Br.ne (fun hne => ⟨?_, hm.trans0 hm2⟩) (fun he => ?_)⟩
        · rw [decide_eq_false (fun e => hne (by subst e; rfl))]
        · rw [wrap_id (by omega) (by omega)]
          refine ih (k + 1) W2 (by omega) hlt (fun i hi => ?_) (hm.trans0 hm2)
          by_cases hik : i = k
          · subst hik; rw [List.getElem?_eq_getElem hlt, List.getElem?_eq_getElem (by omega), he]
          · exact hall i (by omega)
    exact key xs.length 0 W (by omega) (by omega) (fun i hi => by omega) (Mod.refl _ _)
end Go.Proofs.YtacjnpahlbibhaaDoor
end
section
/- Contracts: valid.kind. -/
set_option linter.unusedVariables false
set_option linter.unusedSimpArgs false
set_option maxRecDepth 100000
namespace Go.Proofs.YtacjnpahlbibhaaDoor
open Go Go.RowKit

abbrev ModC (S : MSl) (m : Module) : Array Value := #[S.types.v, S.imports.v, S.funcs.v, S.tables.v, S.mems.v, S.globals.v, S.exports.v, .int .i64 m.start, S.elems.v, S.codes.v, S.datas.v]
abbrev ModV (S : MSl) (m : Module) : Value := .agg (ModC S m)
def SigPost (W : World) (p : Sig × Bool) : Ending → World → Prop := fun e W' =>
  ∃ s0 s1 : Sl, e = .returned (.tuple #[.agg #[s0.v, s1.v], .bool p.2]) ∧ Nint W W' s0 p.1.ins ∧ Nint W W' s1 p.1.outs ∧ (∀ b, s0.isB b → ¬ s1.isB b)
theorem nint_nil {W W' : World} (h : Mod NoB W W') : Nint W W' ⟨none, 0, 0⟩ [] := ⟨Own.nil _ _ _, h, fun b hb => absurd hb (nil_notB b)⟩
theorem kind_spec {W : World} {r : Rd} (hr : Sub r W) {S : MSl} {m : Module} (hm : ModR r S m) (k : Int) (hl : ∀ x ∈ m.types, x.ins.length ≤ big ∧ x.outs.length ≤ big) :
    Calls Tryd.prog f_valid_kind #[ModV S m, .int .i64 k] W (SigPost W (kindOf m k)) := by
  refine of_valid_kind _ _ _ _ _ _ _ _ _ _ _ _ _ _ ?_
  unfold V_valid_kind
  refine Na.mk fun b2 W1 hb2 hm1 hs1 hc1 => ?_
  refine Na.mk fun b4 W2 hb4 hm2 hs2 hc2 => ?_
  have h1 := hm2.heap hc1 (fun h => h)
  have lt1 := heap_lt hc1
  have lt2 := heap_lt hc2
  have hm02 := hm1.trans0 hm2
  refine ⟨S.types, fun _ => cell_of_heap h1 rfl, ?_⟩
  rw [hm.types.1]
  by_cases hk : 0 ≤ k ∧ k.toNat < m.types.length
  · have hko : kindOf m k = (m.types[k.toNat]'hk.2, true) := by unfold kindOf; rw [dif_pos hk]
    have e1 : ((decide (k < 0)) || (decide (k ≥ (m.types.length : Int)))) = false := by
      rw [Bool.or_eq_false_iff]; exact ⟨decide_eq_false (by omega), decide_eq_false (by omega)⟩
    rw [e1, Br_false]
    obtain ⟨q, hq, s0, s1, c0, c1, i0, i1, _⟩ := hm.types.get hk.2
    have hs2' := hr.mod0 hm02
    refine ⟨S.types, cell_of_heap h1 rfl, q, ⟨hq, hk.1, by rw [hm.types.1]; omega⟩, s0, hs2' _ _ c0, s1, hs2' _ _ c1, ?_⟩
    refine Na.mk fun b6 W4 hb6 hm4 hs4 hc4 => ?_
    refine stC_at (b := b6) (o := 0) rfl hc4 (by simp) (by simp [Value.oneCell', Sl.v]) (fun W5 h5 m5 sz5 => ?_)
    rw [setL_all (by simp)] at h5
    have lt6 := heap_lt hc4
    have hm25 : Mod NoB W2 W5 := hm4.trans m5 (fun i hi e => by omega)
    refine Dw.mk fun W6 hm6 _ => ?_
    have h6 := hm6.heap h5 (fun h => h)
    refine ⟨fun w => w.heap[b6]? = some (.cells #[s0.v, s1.v] 37 (0, 0)), h6, s0, fun w hw => cell_of_heap hw rfl, s1, fun w hw => cell_of_heap hw rfl, ?_⟩
    have hm06 := (hm02.trans0 hm25).trans0 hm6
    have hlk := hl _ (List.getElem_mem hk.2)
    refine CallV.mk ent_slices_Clone_int (Clone_spec (hr.mod0 hm06) i0 hlk.1) ?_
    rintro e W7 ⟨t0, rfl, n0⟩
    refine ⟨_, rfl, t0, rfl, n0.mod.heap h6 (fun h => h), ?_⟩
    refine CallV.mk ent_slices_Clone_int (Clone_spec (hr.mod0 (hm06.trans0 n0.mod)) i1 hlk.2) ?_
    rintro e W8 ⟨t1, rfl, n1⟩
    refine ⟨_, rfl, t1, rfl, n1.mod.heap (n0.mod.heap h6 (fun h => h)) (fun h => h), ?_⟩
    have hm28 : Mod NoB W2 W8 := ((hm25.trans0 hm6).trans0 n0.mod).trans0 n1.mod
    have h8 := hm28.heap hc2 (fun h => h)
    have z6 : W2.heap.size ≤ W6.heap.size := (hm25.trans0 hm6).size
    have z7 := n0.mod.size
    refine stC_at (b := b4) (o := 0) rfl h8 (by simp) (by simp [Value.oneCell', Sl.v]) (fun W9 h9 m9 sz9 => ?_)
    rw [setL_all (by simp)] at h9
    refine ⟨t0, cell_of_heap h9 rfl, t1, cell_of_heap h9 rfl, ?_⟩
    rw [hko]
    have hmod : Mod NoB W W9 := (hm02.trans0 hm28).trans m9 (fun i hi e => by have := hm1.size; omega)
    have z02 := hm02.size
    refine ⟨t0, t1, rfl, ⟨(n0.own.mod0 n1.mod).mod m9 (fun b hb e => by have := n0.fresh b hb; omega), hmod, fun b hb => by have := n0.fresh b hb; omega⟩, ⟨n1.own.mod m9 (fun b hb e => by have := n1.fresh b hb; omega), hmod, fun b hb => by have := n1.fresh b hb; omega⟩, fun b hb hb' => ?_⟩
    have := n0.own.lt hb
    have := n1.fresh b hb'
    omega
  · have hko : kindOf m k = (⟨[], []⟩, false) := by unfold kindOf; rw [dif_neg hk]
    have e1 : ((decide (k < 0)) || (decide (k ≥ (m.types.length : Int)))) = true := by
      rw [Bool.or_eq_true]
      by_cases h : k < 0
      · exact .inl (decide_eq_true h)
      · exact .inr (decide_eq_true (by omega))
    rw [e1, Br_true]
    refine stC_at (b := b4) (o := 0) rfl hc2 (by simp) (by simp [Value.oneCell', Sl.v]) (fun W9 h9 m9 sz9 => ?_)
    rw [setL_all (by simp)] at h9
    refine ⟨⟨none, 0, 0⟩, cell_of_heap h9 rfl, ⟨none, 0, 0⟩, cell_of_heap h9 rfl, ?_⟩
    rw [hko]
    have hmod : Mod NoB W W9 := hm02.trans m9 (fun i hi e => by have := hm1.size; omega)
    exact ⟨⟨none, 0, 0⟩, ⟨none, 0, 0⟩, rfl, nint_nil hmod, nint_nil hmod, fun b hb => absurd hb (nil_notB b)⟩
end Go.Proofs.YtacjnpahlbibhaaDoor
end
section
/- Contracts: valid.Sig. (mkValC.py printed this) -/
set_option linter.unusedVariables false
set_option linter.unusedSimpArgs false
set_option maxRecDepth 100000
namespace Go.Proofs.YtacjnpahlbibhaaDoor
open Go Go.RowKit

theorem Sig_spec {W : World} {r : Rd} (hr : Sub r W) {S : MSl} {m : Module} (hm : ModR r S m) (f : Int) (hf : f ≤ 9223372036854775807) (hl : ∀ x ∈ m.types, x.ins.length ≤ big ∧ x.outs.length ≤ big) :
    Calls Tryd.prog f_valid_Sig #[ModV S m, .int .i64 f] W (SigPost W (sigOf m f)) := by
  refine of_valid_Sig _ _ _ _ _ _ _ _ _ _ _ _ _ _ ?_
  unfold V_valid_Sig
  refine Na.mk fun b2 W1 hb2 hm1 hs1 hc1 => ?_
  refine Na.mk fun b4 W2 hb4 hm2 hs2 hc2 => ?_
  have h1 := hm2.heap hc1 (fun h => h)
  have lt1 := heap_lt hc1
  have lt2 := heap_lt hc2
  have hm02 := hm1.trans0 hm2
  have hs02 := hr.mod0 hm02
  refine ⟨S.imports, cell_of_heap h1 rfl, ?_⟩
  rw [hm.imports.1]
  by_cases hi : 0 ≤ f ∧ f.toNat < m.imports.length
  · have hk : kidx m f = (m.imports[f.toNat]'hi.2).type := by unfold kidx; rw [dif_pos hi]
    have e1 : ((decide (f ≥ 0)) && (decide (f < (m.imports.length : Int)))) = true := by
      rw [Bool.and_eq_true]; exact ⟨decide_eq_true hi.1, decide_eq_true (by omega)⟩
    rw [e1, Br_true]
    obtain ⟨q, hq, c0, c1, c2⟩ := hm.imports.get hi.2
    refine ⟨S.imports, cell_of_heap h1 rfl, q, ⟨hq, hi.1, by rw [hm.imports.1]; omega⟩, _, hs02 _ _ c2, ?_⟩
    refine ⟨S.types, cell_of_heap h1 rfl, S.imports, cell_of_heap h1 rfl, S.funcs, cell_of_heap h1 rfl, S.tables, cell_of_heap h1 rfl, S.mems, cell_of_heap h1 rfl, S.globals, cell_of_heap h1 rfl, S.exports, cell_of_heap h1 rfl, m.start, cell_of_heap h1 rfl, S.elems, cell_of_heap h1 rfl, S.codes, cell_of_heap h1 rfl, S.datas, cell_of_heap h1 rfl, ?_⟩
    refine CallV.mk ent_valid_kind (kind_spec (hr.mod0 hm02) hm _ hl) ?_
    rintro e W3 ⟨t0, t1, rfl, n0, n1, hd⟩
    refine ⟨_, rfl, t0, t1, _, rfl, ?_⟩
    have h3 := n0.mod.heap hc2 (fun h => h)
    refine stC_at (b := b4) (o := 0) rfl h3 (by simp) (by simp [Value.oneCell', Sl.v]) (fun W4 h4 m4 sz4 => ?_)
    rw [setL_all (by simp)] at h4
    refine ⟨t0, cell_of_heap h4 rfl, t1, cell_of_heap h4 rfl, ?_⟩
    have hmod : Mod NoB W W4 := (hm02.trans0 n0.mod).trans m4 (fun i hi e => by have := hm1.size; omega)
    have z02 := hm02.size
    rw [sigOf, hk]
    exact ⟨t0, t1, rfl, ⟨n0.own.mod m4 (fun b hb e => by have := n0.fresh b hb; omega), hmod, fun b hb => by have := n0.fresh b hb; omega⟩, ⟨n1.own.mod m4 (fun b hb e => by have := n1.fresh b hb; omega), hmod, fun b hb => by have := n1.fresh b hb; omega⟩, hd⟩
  · have e1 : ((decide (f ≥ 0)) && (decide (f < (m.imports.length : Int)))) = false := by
      rw [Bool.and_eq_false_iff]
      by_cases h : f ≥ 0
      · exact .inr (decide_eq_false (by omega))
      · exact .inl (decide_eq_false h)
    rw [e1, Br_false]
    refine ⟨S.funcs, fun _ => cell_of_heap h1 rfl, ?_⟩
    rw [hm.funcs.1]
    by_cases hj : (m.imports.length : Int) ≤ f ∧ (f - m.imports.length).toNat < m.funcs.length
    · have hk : kidx m f = m.funcs[(f - m.imports.length).toNat]'hj.2 := by unfold kidx; rw [dif_neg hi, dif_pos hj]
      have hw : IntKind.wrap .i64 (f - (m.imports.length : Int)) = f - m.imports.length := wrap_id (by omega) (by omega)
      rw [hw]
      have e2 : ((decide (f ≥ (m.imports.length : Int))) && (decide (f - m.imports.length < (m.funcs.length : Int)))) = true := by
        rw [Bool.and_eq_true]; exact ⟨decide_eq_true hj.1, decide_eq_true (by omega)⟩
      rw [e2, Br_true]
      obtain ⟨q, hq, c0⟩ := hm.funcs.get hj.2
      refine ⟨S.funcs, cell_of_heap h1 rfl, q, ⟨hq, by omega, by rw [hm.funcs.1]; omega⟩, _, hs02 _ _ c0, ?_⟩
      refine ⟨S.types, cell_of_heap h1 rfl, S.imports, cell_of_heap h1 rfl, S.funcs, cell_of_heap h1 rfl, S.tables, cell_of_heap h1 rfl, S.mems, cell_of_heap h1 rfl, S.globals, cell_of_heap h1 rfl, S.exports, cell_of_heap h1 rfl, m.start, cell_of_heap h1 rfl, S.elems, cell_of_heap h1 rfl, S.codes, cell_of_heap h1 rfl, S.datas, cell_of_heap h1 rfl, ?_⟩
      refine CallV.mk ent_valid_kind (kind_spec (hr.mod0 hm02) hm _ hl) ?_
      rintro e W3 ⟨t0, t1, rfl, n0, n1, hd⟩
      refine ⟨_, rfl, t0, t1, _, rfl, ?_⟩
      have h3 := n0.mod.heap hc2 (fun h => h)
      refine stC_at (b := b4) (o := 0) rfl h3 (by simp) (by simp [Value.oneCell', Sl.v]) (fun W4 h4 m4 sz4 => ?_)
      rw [setL_all (by simp)] at h4
      refine ⟨t0, cell_of_heap h4 rfl, t1, cell_of_heap h4 rfl, ?_⟩
      have hmod : Mod NoB W W4 := (hm02.trans0 n0.mod).trans m4 (fun i hi e => by have := hm1.size; omega)
      have z02 := hm02.size
      rw [sigOf, hk]
      exact ⟨t0, t1, rfl, ⟨n0.own.mod m4 (fun b hb e => by have := n0.fresh b hb; omega), hmod, fun b hb => by have := n0.fresh b hb; omega⟩, ⟨n1.own.mod m4 (fun b hb e => by have := n1.fresh b hb; omega), hmod, fun b hb => by have := n1.fresh b hb; omega⟩, hd⟩
    · have hk : kidx m f = -1 := by unfold kidx; rw [dif_neg hi, dif_neg hj]
      have e2 : ((decide (f ≥ (m.imports.length : Int))) && (decide ((IntKind.wrap .i64 (f - (m.imports.length : Int))) < (m.funcs.length : Int)))) = false := by
        rw [Bool.and_eq_false_iff]
        by_cases h : f ≥ (m.imports.length : Int)
        · rw [wrap_id (by omega) (by omega)]; exact .inr (decide_eq_false (by omega))
        · exact .inl (decide_eq_false h)
      rw [e2, Br_false]
      refine ⟨S.types, cell_of_heap h1 rfl, S.imports, cell_of_heap h1 rfl, S.funcs, cell_of_heap h1 rfl, S.tables, cell_of_heap h1 rfl, S.mems, cell_of_heap h1 rfl, S.globals, cell_of_heap h1 rfl, S.exports, cell_of_heap h1 rfl, m.start, cell_of_heap h1 rfl, S.elems, cell_of_heap h1 rfl, S.codes, cell_of_heap h1 rfl, S.datas, cell_of_heap h1 rfl, ?_⟩
      refine CallV.mk ent_valid_kind (kind_spec (hr.mod0 hm02) hm _ hl) ?_
      rintro e W3 ⟨t0, t1, rfl, n0, n1, hd⟩
      refine ⟨_, rfl, t0, t1, _, rfl, ?_⟩
      have h3 := n0.mod.heap hc2 (fun h => h)
      refine stC_at (b := b4) (o := 0) rfl h3 (by simp) (by simp [Value.oneCell', Sl.v]) (fun W4 h4 m4 sz4 => ?_)
      rw [setL_all (by simp)] at h4
      refine ⟨t0, cell_of_heap h4 rfl, t1, cell_of_heap h4 rfl, ?_⟩
      have hmod : Mod NoB W W4 := (hm02.trans0 n0.mod).trans m4 (fun i hi e => by have := hm1.size; omega)
      have z02 := hm02.size
      rw [sigOf, hk]
      exact ⟨t0, t1, rfl, ⟨n0.own.mod m4 (fun b hb e => by have := n0.fresh b hb; omega), hmod, fun b hb => by have := n0.fresh b hb; omega⟩, ⟨n1.own.mod m4 (fun b hb e => by have := n1.fresh b hb; omega), hmod, fun b hb => by have := n1.fresh b hb; omega⟩, hd⟩
end Go.Proofs.YtacjnpahlbibhaaDoor
end
section
/- Contracts: valid.constant, slices.Reverse. -/
set_option linter.unusedVariables false
set_option linter.unusedSimpArgs false
set_option maxRecDepth 100000
namespace Go.Proofs.YtacjnpahlbibhaaDoor
open Go Go.RowKit

/-- Is an expression one constant of a type? -/
def constOk (l : List Instr) (t : Int) : Bool :=
  if l.length = 2 then
    (match l with
    | x :: _ => if x.op = 65 then t == 127 else if x.op = 66 then t == 126 else if x.op = 64780 then t == 123 else false
    | [] => false)
  else false
theorem constant_ok {W : World} {r : Rd} (hr : Sub r W) {s : Sl} {l : List Instr} (h : CodeR r s l) (t : Int) :
    Calls Tryd.prog f_valid_constant #[s.v, .int .i64 t] W fun e W' => e = .returned (.bool (constOk l t)) ∧ W' = W := by
  refine of_valid_constant _ _ _ _ ?_
  unfold V_valid_constant
  rw [h.1]
  refine Br.ne (fun hne => ⟨?_, rfl⟩) (fun heq => ?_)
  · have : constOk l t = false := by unfold constOk; rw [if_neg (by omega)]
    rw [this]
  · have h2 : l.length = 2 := by omega
    obtain ⟨q, hq, hc, _⟩ := h.get (i := 0) (by omega)
    obtain ⟨x, l', rfl⟩ : ∃ x l', l = x :: l' := by
      cases l with
      | nil => simp at h2
      | cons x l' => exact ⟨x, l', rfl⟩
    have hE : constOk (x :: l') t = if x.op = 65 then t == 127 else if x.op = 66 then t == 126 else if x.op = 64780 then t == 123 else false := by
      unfold constOk; rw [if_pos h2]
    refine ⟨q, ⟨hq, by omega, by omega⟩, x.op, hr _ _ hc, Br.eq (fun e => ⟨?_, rfl⟩) (fun n1 => Br.eq (fun e => ⟨?_, rfl⟩) (fun n2 => Br.eq (fun e => ⟨?_, rfl⟩) (fun n3 => ⟨?_, rfl⟩)))⟩
    · rw [hE, if_pos e]
    · rw [hE, if_neg n1, if_pos e]
    · rw [hE, if_neg n1, if_neg n2, if_pos e]
    · rw [hE, if_neg n1, if_neg n2, if_neg n3]
end Go.Proofs.YtacjnpahlbibhaaDoor
end
section
/- Contracts: slices.Reverse. -/
set_option linter.unusedVariables false
set_option linter.unusedSimpArgs false
set_option maxRecDepth 100000
namespace Go.Proofs.YtacjnpahlbibhaaDoor
open Go Go.RowKit

theorem Reverse_spec {W : World} {s : Sl} {xs : List Int} (ho : Own W ty_int 1 s (iv xs)) (hl : xs.length ≤ big) :
    Calls Tryd.prog f_slices_Reverse_int #[s.v] W fun e W' => e = .returned (.tuple #[]) ∧ Own W' ty_int 1 s (iv xs.reverse) ∧ Mod s.isB W W' ∧ W'.heap.size = W.heap.size := by
  refine of_slices_Reverse_int _ _ _ ?_
  unfold V_slices_Reverse_int
  unfold big at hl
  have hs : s.len = xs.length := by have := ho.1; simpa using this.symm
  intro L hL
  have key : ∀ (f i : Nat) (ys : List Int) (W1 : World), f = xs.length - i → 2 * i ≤ xs.length → ys.length = xs.length →
      (∀ t, t < xs.length → ys[t]? = if t < i ∨ xs.length ≤ t + i then xs[xs.length - 1 - t]? else xs[t]?) → Own W1 ty_int 1 s (iv ys) → Mod s.isB W W1 → W1.heap.size = W.heap.size → L (i : Int) ((xs.length : Int) - 1 - i) W1 := by
    intro f
    induction f using Nat.strongRecOn with
    | _ f ih =>
    intro i ys W1 hf hi hlen hys ho1 hm1 hz1
    refine hL _ _ _ (Br.dec (fun hlt => ?_) (fun hge => ⟨rfl, ?_, hm1, hz1⟩))
    · refine Dw.mk fun W2 hm2 hh2 => ?_
      have ho2 := ho1.mod0 hm2
      have hi1 : i < ys.length := by omega
      have hj1 : ys.length - 1 - i < ys.length := by omega
      obtain ⟨q, hq, hcj⟩ := ho2.intsAll.get hj1
      obtain ⟨q', hq', hci⟩ := ho2.intsAll.get hi1
      rw [hq] at hq'; cases hq'
      have tj : ((xs.length : Int) - 1 - i).toNat = ys.length - 1 - i := by omega
      refine ⟨q, ⟨hq, by omega, by rw [hs]; omega⟩, _, by rw [tj]; exact hcj, q, ⟨hq, by omega, by rw [hs]; omega⟩, _, hci, q, ⟨hq, by omega, by rw [hs]; omega⟩, ?_⟩
      rw [tj]
      refine ho2.set hq (i := i * 1) (by simp; omega) rfl (fun W3 ho3 m3 z3 => ⟨q, ⟨hq, by omega, by rw [hs]; omega⟩, ?_⟩)
      refine ho3.set hq (i := (ys.length - 1 - i) * 1) (by simp; omega) rfl (fun W4 ho4 m4 z4 => ?_)
      have w1 : IntKind.wrap .i64 ((i : Int) + 1) = ((i + 1 : Nat) : Int) := by rw [wrap_id (by omega) (by omega)]; omega
      have w2 : IntKind.wrap .i64 ((xs.length : Int) - 1 - i - 1) = (xs.length : Int) - 1 - ((i + 1 : Nat) : Int) := by rw [wrap_id (by omega) (by omega)]; omega
      rw [w1, w2]
      have e4 : ((iv ys).set (i * 1) (.int .i64 ys[ys.length - 1 - i])).set ((ys.length - 1 - i) * 1) (.int .i64 ys[i]) = iv ((ys.set i ys[ys.length - 1 - i]).set (ys.length - 1 - i) ys[i]) := by
        unfold iv; rw [Nat.mul_one, Nat.mul_one, List.map_set, List.map_set]
      rw [e4] at ho4
      refine ih (xs.length - (i + 1)) (by omega) (i + 1) _ W4 rfl (by omega) (by simp [hlen]) ?_ ho4 ((hm1.trans0 hm2).transS m3 |>.transS m4) (by rw [z4, z3, hh2, hz1])
      intro t ht
      have h1 := hys t ht
      simp only [List.getElem?_set, List.length_set]
      by_cases hta : ys.length - 1 - i = t
      · rw [if_pos hta, if_pos (by omega), if_pos (by omega)]
        have h2 := hys i (by omega)
        rw [if_neg (by omega), List.getElem?_eq_getElem hi1] at h2
        rw [h2]; congr 1; omega
      · rw [if_neg hta]
        by_cases htb : i = t
        · rw [if_pos htb, if_pos (by omega), if_pos (by omega)]
          have h2 := hys (ys.length - 1 - i) (by omega)
          rw [if_neg (by omega), List.getElem?_eq_getElem hj1] at h2
          rw [h2]; congr 1; omega
        · rw [if_neg htb, h1]
          by_cases hc : t < i ∨ xs.length ≤ t + i
          · rw [if_pos hc, if_pos (by omega)]
          · rw [if_neg hc, if_neg (by omega)]
    · have : ys = xs.reverse := by
        apply List.ext_getElem?
        intro t
        by_cases ht : t < xs.length
        · rw [hys t ht, List.getElem?_reverse ht]
          by_cases hc : t < i ∨ xs.length ≤ t + i
          · rw [if_pos hc]
          · rw [if_neg hc]; congr 1; omega
        · rw [List.getElem?_eq_none (by omega), List.getElem?_eq_none (by simp; omega)]
      rw [← this]; exact ho1
  have h0 := key xs.length 0 xs W rfl (by omega) rfl (fun t ht => by rw [if_neg (by omega)]) ho (Mod.refl _ _) rfl
  have w0 : IntKind.wrap .i64 ((s.len : Int) - 1) = (xs.length : Int) - 1 - ((0 : Nat) : Int) := by rw [hs, wrap_id (by omega) (by omega)]; omega
  rw [w0]
  exact h0
end Go.Proofs.YtacjnpahlbibhaaDoor
end

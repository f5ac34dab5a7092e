import Derived.Test.YtacjnpahlbibhaaDoorWkE
section
/- Contracts of the walker: variable. -/
set_option linter.unusedVariables false
set_option linter.unusedSimpArgs false
set_option maxRecDepth 100000
namespace Go.Proofs.YtacjnpahlbibhaaDoor
open Go Go.RowKit

abbrev InsV (x : Instr) (s : Sl) : Value := .agg #[.int .i64 x.op, .int .i64 x.a, .int .i64 x.b, .int .u64 x.lo, .int .u64 x.hi, s.v]
theorem Grows.keep {F F' : Nat → Prop} {W : World} (g : Grows F W F') {b : Nat} (hb : b < W.heap.size) (hn : ¬ F b) : ¬ F' b := fun x => (g b x).elim hn (fun y => by omega)
section
variable {W : World} {q : Addr} {F X : Nat → Prop} {S : MSl} {m : Module} {lc : List Int} {k : Wk} {wb : Nat} {sl ss sb : Sl} {bs : List BlkM}
theorem variable_spec (h : WalkAt W q F X S m lc k) (hk : k.Ok) (hb : k.blocks.length ≤ big) (hs : k.stack.length + 1 ≤ big) (x : Instr) (sx : Sl) (ha : 0 ≤ x.a) :
    Calls Tryd.prog f_valid_walker_variable #[.pointer (some q), InsV x sx] W (WalkPost W q F X S m lc (.tuple #[]) (k.varIn m lc x.op x.a)) := by
  refine of_valid_walker_variable _ _ _ _ _ _ _ _ _ ?_
  unfold V_valid_walker_variable
  refine Na.mk fun b3 W1 hb3 hm1 hz1 hc1 => ?_
  have lt3 := heap_lt hc1
  have h1 := h.mod0 hm1
  have hn3 : ¬ F b3 := h.new (by omega)
  obtain ⟨t, ht⟩ : ∃ t, varOf m lc x.op x.a = t := ⟨_, rfl⟩
  intro J hJ
  -- behind the second choice
  have fin : ∀ (x4 : Int) (b5 : Bool) (W2 : World), Mod NoB W1 W2 → (x.op ≤ 34 → (x4, b5) = t) → (x.op > 34 → (x4, b5) = (0, false)) → J x4 b5 W2 := by
    intro x4 b5 W2 hm2 hle hgt
    refine hJ _ _ _ ?_
    intro J1 hJ1
    have fin1 : ∀ (y4 : Int) (y5 : Bool) W3, (y4, y5) = t → Mod NoB W1 W3 → J1 y4 y5 W3 := by
      intro y4 y5 W3 hy hm3
      refine hJ1 _ _ _ ?_
      have hm03 := hm1.trans0 hm3
      refine WalkPost.go ent_valid_walker_must (must_spec' (h.mod0 hm03) y5) (Mod.of0 hm03) (fun i hi => .inl hi) (fun W4 F4 h4 m34 g34 m4 g4 => ⟨rfl, ?_⟩)
      have lt3' : b3 < W3.heap.size := Nat.lt_of_lt_of_le lt3 hm3.size
      have c4 := m34.heap (hm3.heap hc1 (fun h => h)) hn3
      have n4 := g34.keep lt3' hn3
      intro J2 hJ2
      have fin2 : ∀ (W5 : World) (F5 : Nat → Prop) (k2 : Wk), WalkAt W5 q F5 X S m lc k2 → k2.stack.length + 1 ≤ big → Mod F W W5 → Grows F W F5 → W5.heap[b3]? = some (.cells #[.int .i64 x.op, .int .i64 x.a, .int .i64 x.b, .int .u64 x.lo, .int .u64 x.hi, sx.v] 40 (0, 0)) →
          k.varIn m lc x.op x.a = (if x.op ≠ 33 ∧ x.op ≠ 36 then k2.gives [y4] else k2) → J2 W5 := by
        intro W5 F5 k2 h5 hs5 m5 g5 c5 he
        refine hJ2 _ ⟨x.op, by rw [add_mk]; exact cell_of_heap c5 rfl, x.op, fun _ => by rw [add_mk]; exact cell_of_heap c5 rfl, Br.mk (fun hb => ?_) (fun hb => ?_)⟩
        · have hne : x.op ≠ 33 ∧ x.op ≠ 36 := by simpa using hb
          rw [if_pos hne] at he
          refine Na.mk fun b6 W6 hb6 hm6 hz6 hc6 => ?_
          refine WalkPost.go (F0 := F) (W0 := W) ent_valid_walker_gives (gives_spec (s := ⟨some ⟨b6, 0, none⟩, 1, 1⟩) (xs := [y4]) (h5.mod0 hm6) (Sub.self _) (one_int hc6) hs5) (m5.trans0 hm6) g5 (fun W7 F7 h7 _ _ m7 g7 => ⟨rfl, rfl, F7, ?_, m7, g7⟩)
          rw [he]; exact h7
        · have hne : ¬ (x.op ≠ 33 ∧ x.op ≠ 36) := by
            intro hx
            have : ((x.op != 33) && (x.op != 36)) = true := by simpa using hx
            rw [hb] at this; cases this
          rw [if_neg hne] at he
          exact ⟨rfl, F5, by rw [he]; exact h5, m5, g5⟩
      have hvar : k.varIn m lc x.op x.a = (if x.op ≠ 33 ∧ x.op ≠ 36 then (if x.op ≠ 32 ∧ x.op ≠ 35 then ((k.must y5).take y4).2 else k.must y5).gives [y4] else (if x.op ≠ 32 ∧ x.op ≠ 35 then ((k.must y5).take y4).2 else k.must y5)) := by
        unfold Wk.varIn
        rw [ht, ← hy]
      refine ⟨x.op, by rw [add_mk]; exact cell_of_heap c4 rfl, x.op, fun _ => by rw [add_mk]; exact cell_of_heap c4 rfl, Br.mk (fun hb => ?_) (fun hb => ?_)⟩
      · have hne : x.op ≠ 32 ∧ x.op ≠ 35 := by simpa using hb
        rw [if_pos hne] at hvar
        refine WalkPost.go ent_valid_walker_take (take_spec h4 (hk.must _) (by assumption) (by show k.stack.length ≤ big; omega) _) m4 g4 (fun W5 F5 h5 m45 g45 m5 g5 => ⟨_, rfl, ?_⟩)
        exact fin2 W5 F5 _ h5 (by have := Wk.take_len (k.must y5) y4; have e : (k.must y5).stack.length = k.stack.length := rfl; omega) m5 g5 (m45.heap c4 n4) hvar
      · have hne : ¬ (x.op ≠ 32 ∧ x.op ≠ 35) := by
          intro hx
          have : ((x.op != 32) && (x.op != 35)) = true := by simpa using hx
          rw [hb] at this; cases this
        rw [if_neg hne] at hvar
        exact fin2 W4 F4 _ h4 hs m4 g4 c4 hvar
    refine Dw.mk fun W9 hm9 hh9 => ?_
    have hm19 := hm2.trans0 hm9
    obtain ⟨wb, sl, ss, sb, bs, rfl, g1⟩ := h1
    have g9 := g1.mod0 hm19
    have c9 := hm19.heap hc1 (fun h => h)
    have hgl := g9.mr.globals.1
    have cg : W9.cell? (((⟨wb, 0, none⟩ : Addr).add 0).add 5) = some S.globals.v := by rw [add_zero, add_mk]; exact cell_of_heap g9.blk rfl
    refine ⟨x.op, by rw [add_mk]; exact cell_of_heap c9 rfl, x.a, fun _ => by rw [add_mk]; exact cell_of_heap c9 rfl, _, fun _ => rfl, S.globals, fun _ => cg, Br.mk (fun hb => ?_) (fun hb => ?_)⟩
    · obtain ⟨hop, hlt⟩ : x.op > 34 ∧ x.a < (S.globals.len : Int) := by simpa using hb
      have hlt' : x.a.toNat < m.globals.length := by omega
      obtain ⟨p, hp, c0, c1, _⟩ := g9.mr.globals.get hlt'
      refine Dw.mk fun W10 hm10 hh10 => ?_
      have hm110 := hm19.trans0 hm10
      have g10 := g1.mod0 hm110
      have c10 := hm110.heap hc1 (fun h => h)
      have cg' : W10.cell? (((⟨wb, 0, none⟩ : Addr).add 0).add 5) = some S.globals.v := by rw [add_zero, add_mk]; exact cell_of_heap g10.blk rfl
      have d0 := hm10.cell (offS_sub _ _ _ _ c0) (fun h => h)
      have d1 := hm10.cell (offS_sub _ _ _ _ c1) (fun h => h)
      refine ⟨_, rfl, S.globals, cg', x.a, by rw [add_mk]; exact cell_of_heap c10 rfl, p, ⟨hp, by omega, by omega⟩, _, d0, x.op, by rw [add_mk]; exact cell_of_heap c10 rfl, _, fun _ => rfl, S.globals, fun _ => cg', x.a, fun _ => by rw [add_mk]; exact cell_of_heap c10 rfl, p, fun _ => ⟨hp, by omega, by omega⟩, _, fun _ => d1, ?_⟩
      refine fin1 _ _ W10 ?_ hm110
      rw [← ht]
      unfold varOf
      rw [if_neg (by omega), List.getElem?_eq_getElem hlt']
    · refine fin1 _ _ W9 ?_ hm19
      by_cases hop : x.op ≤ 34
      · exact hle hop
      · rw [hgt (by omega), ← ht]
        have hge : ¬ (x.a < (S.globals.len : Int)) := by
          intro hx
          have : ((decide (x.op > 34)) && (decide (x.a < (S.globals.len : Int)))) = true := by rw [Bool.and_eq_true, decide_eq_true_eq, decide_eq_true_eq]; omega
          rw [hb] at this; cases this
        unfold varOf
        rw [if_neg hop, List.getElem?_eq_none (by omega)]
  refine Dw.mk fun W11 hm11 hh11 => ?_
  have c11 := hm11.heap hc1 (fun h => h)
  obtain ⟨wb, sl, ss, sb, bs, rfl, g1⟩ := h1
  have g11 := g1.mod0 hm11
  have hll := g11.lcs.1
  refine ⟨x.op, by rw [add_mk]; exact cell_of_heap c11 rfl, x.a, fun _ => by rw [add_mk]; exact cell_of_heap c11 rfl, _, fun _ => rfl, sl, fun _ => by rw [add_mk]; exact cell_of_heap g11.blk rfl, Br.mk (fun hb => ?_) (fun hb => ?_)⟩
  · obtain ⟨hop, hlt⟩ : x.op ≤ 34 ∧ x.a < (sl.len : Int) := by simpa using hb
    have hlt' : x.a.toNat < lc.length := by omega
    refine Dw.mk fun W12 hm12 hh12 => ?_
    have hm112 := hm11.trans0 hm12
    have g12 := g1.mod0 hm112
    have c12 := hm112.heap hc1 (fun h => h)
    obtain ⟨p, hp, c0⟩ := g12.lcs.get hlt'
    refine ⟨_, rfl, sl, by rw [add_mk]; exact cell_of_heap g12.blk rfl, x.a, by rw [add_mk]; exact cell_of_heap c12 rfl, p, ⟨hp, by omega, by omega⟩, _, offS_sub _ _ _ _ c0, ?_⟩
    refine fin _ _ W12 hm112 (fun _ => ?_) (fun _ => by omega)
    rw [← ht]
    unfold varOf
    rw [if_pos hop, List.getElem?_eq_getElem hlt']
  · refine fin _ _ W11 hm11 (fun hop => ?_) (fun _ => rfl)
    have hge : ¬ (x.a < (sl.len : Int)) := by
      intro hx
      have : ((decide (x.op ≤ 34)) && (decide (x.a < (sl.len : Int)))) = true := by rw [Bool.and_eq_true, decide_eq_true_eq, decide_eq_true_eq]; omega
      rw [hb] at this; cases this
    rw [← ht]
    unfold varOf
    rw [if_pos hop, List.getElem?_eq_none (by omega)]
end
end Go.Proofs.YtacjnpahlbibhaaDoor
end
section
/- Contracts of the walker: fields. -/
set_option linter.unusedVariables false
set_option linter.unusedSimpArgs false
set_option maxRecDepth 100000
namespace Go.Proofs.YtacjnpahlbibhaaDoor
open Go Go.RowKit

theorem und_vec : Program.underlying Tryd.prog 152 = some (.array 16 5) := by kernel_rfl
theorem und_5 : Program.underlying Tryd.prog 5 = some (.int .u8) := by kernel_rfl
theorem info_5 : (Tryd.prog.info? 5).map (fun i => i.size) = some 1 := by kernel_rfl
theorem run_index {l : List Int} (hl : l.length = 16) {i : Nat} (hi : i < 16) (w : World) :
    (Instr.index 152 (.agg (bv l).toArray) (.int .i64 (i : Int))).run Tryd.prog w = .ok (.int .u8 (l[i]'(by omega))) w := by
  have h1 : (0 : Int) ≤ (i : Int) ∧ (i : Int) < (16 : Int) := by omega
  obtain ⟨ti, hti, hts⟩ : ∃ ti, Tryd.prog.info? 5 = some ti ∧ ti.size = 1 := by
    have := info_5
    cases h : Tryd.prog.info? 5 with
    | none => rw [h] at this; simp at this
    | some ti => rw [h] at this; exact ⟨ti, rfl, by simpa using this⟩
  simp [Instr.index, asIntOf, run_underlying und_vec, run_underlying und_5, sizeOf, typeInfo, hti, hts, h1, hi, part, hl]
section
variable {W : World} {q : Addr} {F X : Nat → Prop} {S : MSl} {m : Module} {lc : List Int} {k : Wk} {wb : Nat} {sl ss sb : Sl} {bs : List BlkM}
theorem fields_spec (h : WalkAt W q F X S m lc k) (x : Instr) (sx : Sl) (i : Info) (sI sO : Sl) (hl : i.form = 8 → 0 ≤ i.limit) :
    Calls Tryd.prog f_valid_walker_fields #[.pointer (some q), InsV x sx, InfoV i sI sO] W (WalkPost W q F X S m lc (.tuple #[]) (k.fields m x i.form i.limit)) := by
  refine of_valid_walker_fields _ _ _ _ _ _ _ _ _ _ _ _ _ _ ?_
  unfold V_valid_walker_fields
  refine Na.mk fun b4 W1 hb4 hm1 hz1 hc1 => ?_
  have lt4 := heap_lt hc1
  refine Na.mk fun b5 W2 hb5 hm2 hz2 hc2 => ?_
  have lt5 := heap_lt hc2
  have hm02 := hm1.trans0 hm2
  have c1 := hm2.heap hc1 (fun h => h)
  have h2 := h.mod0 hm02
  have n4 : ¬ F b4 := h.new (by omega)
  have n5 : ¬ F b5 := h.new (by omega)
  refine ⟨i.form, by rw [add_mk]; exact cell_of_heap hc2 rfl, ?_⟩
  intro J hJ
  have fin : ∀ b : Bool, b = decide (i.form = 7 ∨ i.form = 8 ∨ i.form = 14) → J b W2 := by
    intro b hb
    refine hJ _ _ (Br.mk (fun hbt => ?_) (fun hbf => ?_))
    · have hf : i.form = 7 ∨ i.form = 8 ∨ i.form = 14 := by rw [hb] at hbt; exact of_decide_eq_true hbt
      have ek : k.fields m x i.form i.limit = (k.must (decide ((m.mems.length : Int) > 0) && decide (x.a ≤ i.limit))).must ((i.form != 8) || decide (x.lo < Int.fdiv 16 (2 ^ (min i.limit.toNat 64)))) := by
        unfold Wk.fields; rw [if_pos hf]
      rw [ek]
      obtain ⟨wb, sl, ss, sb, bs, rfl, g2⟩ := h2
      have hml := g2.mr.mems.1
      refine ⟨_, rfl, S.mems, by rw [add_zero, add_mk]; exact cell_of_heap g2.blk rfl, x.a, fun _ => by rw [add_mk]; exact cell_of_heap c1 rfl, i.limit, fun _ => by rw [add_mk]; exact cell_of_heap hc2 rfl, ?_⟩
      rw [hml]
      refine WalkPost.go ent_valid_walker_must (must_spec' g2.at _) (Mod.of0 hm02) (fun i hi => .inl hi) (fun W4 F4 h4 m24 g24 m4 g4 => ⟨rfl, ?_⟩)
      have d1 := m24.heap c1 n4
      have d2 := m24.heap hc2 n5
      have n4' := g24.keep (Nat.lt_of_lt_of_le lt4 hm2.size) n4
      have n5' := g24.keep lt5 n5
      refine Dw.mk fun W5 hm5 hh5 => ?_
      have e1 := hm5.heap d1 (fun h => h)
      have e2 := hm5.heap d2 (fun h => h)
      refine ⟨fun w => w.heap[b4]? = some (.cells #[.int .i64 x.op, .int .i64 x.a, .int .i64 x.b, .int .u64 x.lo, .int .u64 x.hi, sx.v] 40 (0, 0)) ∧ w.heap[b5]? = some (.cells #[.int .i64 i.form, .int .i64 i.limit, .bool i.plain, sI.v, sO.v] 131 (0, 0)), ⟨e1, e2⟩, i.form, fun w hw => by rw [add_mk]; exact cell_of_heap hw.2 rfl, x.lo, fun _ w hw => by rw [add_mk]; exact cell_of_heap hw.1 rfl, i.limit, fun _ w hw => by rw [add_mk]; exact cell_of_heap hw.2 rfl, fun h8 => hl (by simpa using h8), ?_⟩
      refine WalkPost.go (F0 := F) (W0 := W) ent_valid_walker_must (must_spec' (h4.mod0 hm5) _) (m4.trans0 hm5) g4 (fun W6 F6 h6 m56 g56 m6 g6 => ⟨rfl, ⟨m56.heap e1 n4', m56.heap e2 n5'⟩, rfl, F6, h6, m6, g6⟩)
    · have hf : ¬ (i.form = 7 ∨ i.form = 8 ∨ i.form = 14) := by rw [hb] at hbf; exact of_decide_eq_false hbf
      refine Br.eq (fun h13 => ?_) (fun h13 => Br.eq (fun h12 => ?_) (fun h12 => ?_))
      · have ek : k.fields m x i.form i.limit = k.must (decide (x.a < i.limit)) := by unfold Wk.fields; rw [if_neg hf, if_pos h13]
        rw [ek]
        refine ⟨x.a, by rw [add_mk]; exact cell_of_heap c1 rfl, i.limit, by rw [add_mk]; exact cell_of_heap hc2 rfl, ?_⟩
        exact WalkPost.go ent_valid_walker_must (must_spec' h2 _) (Mod.of0 hm02) (fun i hi => .inl hi) (fun W4 F4 h4 m24 g24 m4 g4 => ⟨rfl, rfl, F4, h4, m4, g4⟩)
      · have ek : k.fields m x i.form i.limit = (joinB x.lo x.hi).foldl (fun k c => k.must (decide (c < 32))) k := by unfold Wk.fields; rw [if_neg hf, if_neg h13, if_pos h12]
        rw [ek]
        refine ⟨x.lo, by rw [add_mk]; exact cell_of_heap c1 rfl, x.hi, by rw [add_mk]; exact cell_of_heap c1 rfl, ?_⟩
        refine CallV.mk ent_pair_Join (Join_spec _ _ _) ?_
        rintro e W3 ⟨rfl, hm3⟩
        have hjl := joinB_len x.lo x.hi
        refine ⟨_, rfl, byteAt x.lo 0, byteAt x.lo 1, byteAt x.lo 2, byteAt x.lo 3, byteAt x.lo 4, byteAt x.lo 5, byteAt x.lo 6, byteAt x.lo 7, byteAt x.hi 0, byteAt x.hi 1, byteAt x.hi 2, byteAt x.hi 3, byteAt x.hi 4, byteAt x.hi 5, byteAt x.hi 6, byteAt x.hi 7, rfl, ?_⟩
        intro L hL
        have key : ∀ (n j : Nat) (k1 : Wk) (W4 : World) (F4 : Nat → Prop), n = 16 - j → j ≤ 16 → WalkAt W4 q F4 X S m lc k1 → Mod F W W4 → Grows F W F4 → (joinB x.lo x.hi).foldl (fun k c => k.must (decide (c < 32))) k = ((joinB x.lo x.hi).drop j).foldl (fun k c => k.must (decide (c < 32))) k1 → L (j : Int) W4 := by
          intro n
          induction n with
          | zero =>
            intro j k1 W4 F4 hn hj h4 m4 g4 he
            have hj : j = 16 := by omega
            refine hL _ _ (Br.dec (fun h => by omega) (fun _ => ⟨rfl, F4, ?_, m4, g4⟩))
            rw [he, List.drop_eq_nil_of_le (by omega)]; exact h4
          | succ n ih =>
            intro j k1 W4 F4 hn hj h4 m4 g4 he
            have hlt : j < 16 := by omega
            refine hL _ _ (Br.dec (fun _ => ?_) (fun h => absurd (by omega) h))
            have hrun := run_index hjl hlt W4
            have hcells : (bv (joinB x.lo x.hi)).toArray = #[(.int .u8 (byteAt x.lo 0)), (.int .u8 (byteAt x.lo 1)), (.int .u8 (byteAt x.lo 2)), (.int .u8 (byteAt x.lo 3)), (.int .u8 (byteAt x.lo 4)), (.int .u8 (byteAt x.lo 5)), (.int .u8 (byteAt x.lo 6)), (.int .u8 (byteAt x.lo 7)), (.int .u8 (byteAt x.hi 0)), (.int .u8 (byteAt x.hi 1)), (.int .u8 (byteAt x.hi 2)), (.int .u8 (byteAt x.hi 3)), (.int .u8 (byteAt x.hi 4)), (.int .u8 (byteAt x.hi 5)), (.int .u8 (byteAt x.hi 6)), (.int .u8 (byteAt x.hi 7))] := rfl
            rw [hcells] at hrun
            unfold RunV
            rw [hrun]
            refine ⟨_, rfl, ?_⟩
            refine WalkPost.go ent_valid_walker_must (must_spec' h4 _) m4 g4 (fun W5 F5 h5 m45 g45 m5 g5 => ⟨rfl, ?_⟩)
            rw [wrap_id (by omega) (by omega)]
            refine ih (j + 1) _ W5 F5 (by omega) hlt h5 m5 g5 ?_
            rw [he, List.drop_eq_getElem_cons (by omega), List.foldl_cons]
        exact key 16 0 k W3 F rfl (by omega) (h2.mod0 hm3) (Mod.of0 (hm02.trans0 hm3)) (Grows.refl _ _) rfl
      · have ek : k.fields m x i.form i.limit = k := by unfold Wk.fields; rw [if_neg hf, if_neg h13, if_neg h12]
        rw [ek]
        exact ⟨rfl, F, h2, Mod.of0 hm02, Grows.refl _ _⟩
  refine Br.eq (fun h7 => fin _ ?_) (fun h7 => Br.eq (fun h8 => fin _ ?_) (fun h8 => fin _ ?_))
  · rw [h7]; rfl
  · rw [h8]; rfl
  · by_cases h14 : i.form = 14
    · rw [h14]; rfl
    · rw [decide_eq_false (by omega)]; simpa using h14
end
end Go.Proofs.YtacjnpahlbibhaaDoor
end
section
/- Contracts of the walker: close. -/
set_option linter.unusedVariables false
set_option linter.unusedSimpArgs false
set_option maxRecDepth 100000
namespace Go.Proofs.YtacjnpahlbibhaaDoor
open Go Go.RowKit

section
variable {W : World} {q : Addr} {F X : Nat → Prop} {S : MSl} {m : Module} {lc : List Int} {k : Wk} {wb : Nat} {sl ss sb : Sl} {bs : List BlkM}
theorem must_in (h : WalkIn W F X S m lc wb sl ss sb bs k) (ok : Bool) : Calls Tryd.prog f_valid_walker_must #[.pointer (some ⟨wb, 0, none⟩), .bool ok] W (fun e W' => e = .returned (.tuple #[]) ∧ WalkIn W' F X S m lc wb sl ss sb bs (k.must ok) ∧ Mod F W W') := by
  refine of_valid_walker_must _ _ _ _ ?_
  unfold V_valid_walker_must
  exact ⟨_, rfl, k.bad, by rw [add_mk]; exact cell_of_heap h.blk rfl, _, rfl, h.setBad (fun w' h1 m1 _ => ⟨rfl, h1, m1⟩)⟩
theorem flat_dropLast (bs : List BlkM) (n : Nat) (hn : n = bs.length - 1) : (bs.flatMap blkC).take (n * 6) = bs.dropLast.flatMap blkC := by
  subst hn
  rw [List.dropLast_eq_take]
  have hle : bs.length - 1 ≤ bs.length := by omega
  have e : bs.flatMap blkC = (bs.take (bs.length - 1)).flatMap blkC ++ (bs.drop (bs.length - 1)).flatMap blkC := by rw [← List.flatMap_append, List.take_append_drop]
  rw [e, List.take_append_of_le_length (by rw [flat_len blkC_len, List.length_take]; omega), List.take_of_length_le (by rw [flat_len blkC_len, List.length_take]; omega)]
theorem close_spec (h : WalkAt W q F X S m lc k) (hk : k.Ok) (ht : ∀ b ∈ k.blocks, b.ins.length ≤ 32 ∧ b.outs.length ≤ 32) (hb : k.blocks.length + 2 ≤ big) (hs : k.stack.length + 32 ≤ big) (op : Int) :
    Calls Tryd.prog f_valid_walker_close #[.pointer (some q), .int .i64 op] W (WalkPost W q F X S m lc (.tuple #[]) (k.close op)) := by
  refine of_valid_walker_close _ _ _ _ ?_
  unfold V_valid_walker_close
  obtain ⟨wb, sl, ss, sb, bs, rfl, h⟩ := h
  have hFW := h.lt
  obtain ⟨b, hlast, hbm, hble⟩ := hk.last
  have htb := ht b hbm
  refine CallV.mk ent_valid_walker_top (top_spec h hk.ne (by omega)) ?_
  rintro e W1 ⟨g, rfl, hg, hm1, hh1⟩
  have h1 := h.mod0 hm1
  obtain ⟨x, rfl, hxm, hbs, hF, hc⟩ := h1.lastAt hlast hg
  refine ⟨_, rfl, _, rfl, _, rfl, _, hc 0 _ rfl, _, hc 1 _ rfl, x.2.1, hc 2 _ rfl, x.2.2, hc 3 _ rfl, _, hc 4 _ rfl, _, hc 5 _ rfl, ?_⟩
  refine Na.mk fun b4 W2 hb4 hm2 hz2 hc2 => ?_
  have lt4 := heap_lt hc2
  refine stC_at (b := b4) (o := 0) rfl hc2 (by simp) (by simp [Value.oneCell', Sl.v]) (fun W3 c3 m3 sz3 => ?_)
  rw [setL_all (by simp)] at c3
  have hm13 : Mod NoB W1 W3 := hm2.trans m3 (fun i hi e => by omega)
  have hm03 := hm1.trans0 hm13
  have h3 := h.mod0 hm03
  have lt43 := heap_lt c3
  have n4 : ¬ F b4 := h1.new (by omega)
  have hio := h3.io x hxm
  refine ⟨x.2.2, by rw [add_mk]; exact cell_of_heap c3 rfl, ?_⟩
  refine WalkPost.go ent_valid_walker_takes (takes_spec h3.at hk (by omega) (by omega) hio.2 (by unfold big; omega)) (Mod.of0 hm03) (fun i hi => .inl hi) (fun W4 F4 h4 m34 g34 m4 g4 => ⟨rfl, ?_⟩)
  have c4 := m34.heap c3 n4
  have n44 := g34.keep lt43 n4
  have hle4 := offS_step (X := X) m34 g34
  have i4 := Ints.mono hio.1 hle4
  have o4 := Ints.mono hio.2 hle4
  obtain ⟨wb4, sl4, ss4, sb4, bs4, hwb, h4⟩ := h4
  cases hwb
  have hsl4 := h4.slen
  have hsb4 := h4.sblen
  have hbl4 := h4.blen
  rw [Wk.takes_blocks] at hsb4 hbl4
  have hpos : 0 < k.blocks.length := List.length_pos_iff.2 hk.ne
  have htl := Wk.takes_len k x.1.outs
  refine Dw.mk fun W5 hm5 hh5 => ?_
  have h5 := h4.mod0 hm5
  have c5 := hm5.heap c4 (fun h => h)
  have cc : ∀ (w : World), w.heap[b4]? = some (.cells #[.int .i64 x.1.op, .int .i64 x.1.height, x.2.1.v, x.2.2.v, .bool x.1.dead, .bool x.1.live] 117 (0, 0)) → ∀ (j : Nat) (v : Value), (blkC x)[j]? = some v → w.cell? ((⟨b4, 0, none⟩ : Addr).add j) = some v := by
    intro w hw j v hv
    rw [add_mk]
    refine cell_of_heap hw ?_
    rw [Nat.zero_add]
    rw [show ∀ (l : List Value) (i : Nat), l.toArray[i]? = l[i]? from fun l i => by simp]
    exact hv
  refine ⟨fun w => w.cell? ((⟨wb, 0, none⟩ : Addr).add 12) = some ss4.v ∧ w.heap[b4]? = some (.cells #[.int .i64 x.1.op, .int .i64 x.1.height, x.2.1.v, x.2.2.v, .bool x.1.dead, .bool x.1.live] 117 (0, 0)), ⟨by rw [add_mk]; exact cell_of_heap h5.blk rfl, c5⟩, _, rfl, ss4, fun w hw => hw.1, _, fun w hw => cc w hw.2 1 _ rfl, ?_⟩
  rw [hsl4]
  obtain ⟨k1, hk1⟩ : ∃ k1, k1 = (k.takes x.1.outs).must (((k.takes x.1.outs).stack.length : Int) == x.1.height) := ⟨_, rfl⟩
  have hk1b : k1.blocks = k.blocks := by rw [hk1]; exact Wk.takes_blocks _ _
  have hk1s : k1.stack.length ≤ k.stack.length := by rw [hk1]; exact htl
  have hclose : k.close op = if k1.bad then { k1 with blocks := k1.blocks.dropLast ++ [x.1] } else if op = 5 then ((Wk.open { k1 with blocks := k1.blocks.dropLast } 5 x.1.ins x.1.outs)).gives x.1.ins
      else (Wk.must { k1 with blocks := k1.blocks.dropLast } (decide (x.1.op ≠ 4 ∨ x.1.ins = x.1.outs))).gives x.1.outs := by
    rw [hk1]; simp only [Wk.close, hlast]
  refine CallV.mk ent_valid_walker_must (must_in h5 _) ?_
  rintro e W6 ⟨rfl, h6, m56⟩
  rw [← hk1] at h6
  have c6 := m56.heap c5 n44
  refine ⟨_, rfl, rfl, ⟨by rw [add_mk]; exact cell_of_heap h6.blk rfl, c6⟩, ?_⟩
  refine Dw.mk fun W7 hm7 hh7 => ?_
  have h7 := h6.mod0 hm7
  have c7 := hm7.heap c6 (fun h => h)
  have hcap := h7.bls.le_cap
  unfold big at hb
  have hw : IntKind.wrap .i64 ((sb4.len : Int) - 1) = ((k.blocks.length - 1 : Nat) : Int) := by rw [wrap_id (by omega) (by omega)]; omega
  refine ⟨_, rfl, sb4, by rw [add_mk]; exact cell_of_heap h7.blk rfl, _, rfl, sb4, by rw [add_mk]; exact cell_of_heap h7.blk rfl, ?_⟩
  rw [hw]
  refine ⟨⟨by omega, by omega⟩, _, rfl, ?_⟩
  rw [resl]
  have hcut := h7.bls.cut (n := k.blocks.length - 1) (by omega)
  rw [flat_dropLast bs4 _ (by omega)] at hcut
  -- all so far
  have hm47 : Mod F4 W4 W7 := ((Mod.of0 hm5).transS m56).trans0 hm7
  have hm07 : Mod F W W7 := m4.steps hm47 g4
  have hle7 := offS_step (X := X) hm47 (Grows.refl _ _)
  have i7 := Ints.mono i4 hle7
  have o7 := Ints.mono o4 hle7
  refine h7.setBlocks (sb' := ⟨sb4.a, k.blocks.length - 1, sb4.cap⟩) (bs' := bs4.dropLast) hcut (Mod.refl _ _) (fun b hb => .inl hb) (fun b hb => h7.io b (List.dropLast_subset _ hb)) (fun W8 F8 h8 m78 g78 _ => ?_)
  have hbk8 : bs4.dropLast.map (·.1) = k.blocks.dropLast := by
    have := h4.bk
    rw [Wk.takes_blocks] at this
    rw [← this, List.map_dropLast]
  have hk8 : ({ k1 with blocks := bs4.dropLast.map (·.1) } : Wk) = { k1 with blocks := k1.blocks.dropLast } := by rw [hbk8, hk1b]
  rw [hk8] at h8
  have m8 := hm07.steps m78 g4
  have g8 : Grows F W F8 := g4.trans (fun i hi => g78 i hi) hm07.size
  have lt47 := heap_lt c7
  have n47 : ¬ F4 b4 := n44
  have c8 := m78.heap c7 n47
  have n48 := g78.keep lt47 n47
  have hle8 := offS_step (X := X) m78 g78
  have i8 := Ints.mono i7 hle8
  have o8 := Ints.mono o7 hle8
  have hup := hk.up
  have hl8 : ({ k1 with blocks := k1.blocks.dropLast } : Wk).blocks.length = k.blocks.length - 1 := by
    show k1.blocks.dropLast.length = _
    rw [hk1b, List.length_dropLast]
  refine ⟨_, rfl, k1.bad, by rw [add_mk]; exact cell_of_heap h8.blk rfl, Br.mk (fun hbad => ?_) (fun hgood => ?_)⟩
  · rw [hclose, if_pos hbad]
    refine Dw.mk fun W9 hm9 hh9 => ?_
    have h9 := h8.mod0 hm9
    have c9 := hm9.heap c8 (fun h => h)
    refine ⟨fun w => w.cell? ((⟨wb, 0, none⟩ : Addr).add 13) = some (⟨sb4.a, k.blocks.length - 1, sb4.cap⟩ : Sl).v ∧ w.heap[b4]? = some (.cells #[.int .i64 x.1.op, .int .i64 x.1.height, x.2.1.v, x.2.2.v, .bool x.1.dead, .bool x.1.live] 117 (0, 0)), ⟨by rw [add_mk]; exact cell_of_heap h9.blk rfl, c9⟩, _, rfl, _, fun w hw => hw.1, _, fun w hw => cc w hw.2 0 _ rfl, _, fun w hw => cc w hw.2 1 _ rfl, x.2.1, fun w hw => cc w hw.2 2 _ rfl, x.2.2, fun w hw => cc w hw.2 3 _ rfl, _, fun w hw => cc w hw.2 4 _ rfl, _, fun w hw => cc w hw.2 5 _ rfl, ?_⟩
    refine Na.mk fun b5 W10 hb5 hm10 hz10 hc10 => ?_
    have h10 := h9.mod0 hm10
    have c10 := hm10.heap c9 (fun h => h)
    refine ⟨⟨by rw [add_mk]; exact cell_of_heap h10.blk rfl, c10⟩, ?_⟩
    have hsrc : Src Tryd.prog 6 ty_sl_valid_block (⟨some ⟨b5, 0, none⟩, 1, 1⟩ : Sl).v 1 (blkC x) W10 := by
      refine Src.read tyf_sl_valid_block.und rfl (fun j u hu => ⟨_, rfl, ?_⟩) (blkC_one _)
      rw [add_mk]
      refine cell_of_heap hc10 ?_
      rw [Nat.zero_add]
      rw [show ∀ (l : List Value) (i : Nat), l.toArray[i]? = l[i]? from fun l i => by simp]
      exact hu
    have hlen10 : (⟨sb4.a, k.blocks.length - 1, sb4.cap⟩ : Sl).len = k.blocks.length - 1 := rfl
    refine tyf_sl_valid_block.append rfl h10.bls hsrc (by omega) (by unfold maxLen; omega) (fun s' W11 ho11 hl11 m11 g11 => ⟨s', rfl, ⟨?_, ?_⟩, _, rfl, ?_⟩)
    · exact m11.cell (p := (⟨wb, 0, none⟩ : Addr).add 13) (by rw [add_mk]; exact cell_of_heap h10.blk rfl) (by rw [add_block]; exact h10.nsb)
    · exact m11.heap c10 (fun hx => n48 (h10.fsb _ hx))
    · have hle := offS_mod0 (F := FX F8 X) (hm9.trans0 hm10)
      have ho12 : Own W11 ty_valid_block 6 s' ((bs4.dropLast ++ [x]).flatMap blkC) := by
        rw [List.flatMap_append, List.flatMap_cons, List.flatMap_nil, List.append_nil]; exact ho11
      refine h10.setBlocks ho12 m11 g11 (fun b hb => ?_) (fun W12 F12 h12 m12 g12 _ => ?_)
      · rcases List.mem_append.1 hb with hb | hb
        · exact h10.io b hb
        · simp at hb; subst hb; exact ⟨Ints.mono i8 hle, Ints.mono o8 hle⟩
      · have hm810 := hm9.trans0 hm10
        refine ⟨rfl, F12, ?_, (m8.trans0 hm810).steps m12 g8, g8.trans (fun i hi => (g12 i hi).imp id (fun y => Nat.le_trans hm810.size y)) m8.size⟩
        have ek : ({ k1 with blocks := k1.blocks.dropLast ++ [x.1] } : Wk) = { k1 with blocks := (bs4.dropLast ++ [x]).map (fun y : BlkM => y.1) } := by
          rw [List.map_append, hk1b]
          congr 2
          exact hbk8.symm
        rw [ek]; exact h12.at
  · have hngood : ¬ (k1.bad = true) := by rw [hgood]; simp
    refine Br.eq (fun h5' => ?_) (fun h5' => ?_)
    · rw [hclose, if_neg hngood, if_pos h5']
      refine ⟨x.2.1, cc _ c8 2 _ rfl, x.2.2, cc _ c8 3 _ rfl, ?_⟩
      refine WalkPost.go ent_valid_walker_open (open_spec h8.at (by rw [hl8]; unfold big; omega) i8 o8 5) m8 g8 (fun W13 F13 h13 m13a g13a m13 g13 => ⟨rfl, x.2.1, cc _ (m13a.heap c8 n48) 2 _ rfl, ?_⟩)
      have i13 := Ints.mono i8 (offS_step m13a g13a)
      refine WalkPost.go ent_valid_walker_gives (gives_spec h13 (offS_sub _ _) i13 (by show k1.stack.length + x.1.ins.length ≤ big; omega)) m13 g13 (fun W14 F14 h14 _ _ m14 g14 => ⟨rfl, rfl, F14, h14, m14, g14⟩)
    · rw [hclose, if_neg hngood, if_neg h5']
      intro J hJ
      have fin : ∀ (W15 : World) (F15 : Nat → Prop), WalkAt W15 ⟨wb, 0, none⟩ F15 X S m lc (Wk.must { k1 with blocks := k1.blocks.dropLast } (decide (x.1.op ≠ 4 ∨ x.1.ins = x.1.outs))) → Mod F8 W8 W15 → Grows F8 W8 F15 → J W15 := by
        intro W15 F15 h15 m15 g15
        refine hJ _ ⟨x.2.2, cc _ (m15.heap c8 n48) 3 _ rfl, ?_⟩
        have o15 := Ints.mono o8 (offS_step m15 g15)
        refine WalkPost.go ent_valid_walker_gives (gives_spec h15 (offS_sub _ _) o15 (by show k1.stack.length + x.1.outs.length ≤ big; omega)) (m8.steps m15 g8) (g8.trans g15 m8.size) (fun W14 F14 h14 _ _ m14 g14 => ⟨rfl, rfl, F14, h14, m14, g14⟩)
      refine ⟨x.1.op, cc _ c8 0 _ rfl, x.2.1, fun _ => cc _ c8 2 _ rfl, x.2.2, fun _ => cc _ c8 3 _ rfl, fun h4' => ?_, fun h4' => ?_⟩
      · have e4 : x.1.op = 4 := by simpa using h4'
        refine CallV.mk ent_slices_Equal_int (Equal_spec (offS_sub W8 _) i8 o8 (by unfold big; omega)) ?_
        rintro e W17 ⟨rfl, hm17⟩
        refine ⟨_, rfl, _, rfl, ?_⟩
        have ed : (decide (x.1.op ≠ 4 ∨ x.1.ins = x.1.outs)) = decide (x.1.ins = x.1.outs) := by rw [e4]; simp
        refine WalkPost.go (F0 := F8) (W0 := W8) ent_valid_walker_must (must_spec' (h8.at.mod0 hm17) _) (Mod.of0 hm17) (fun i hi => .inl hi) (fun W18 F18 h18 _ _ m18 g18 => ⟨rfl, fin W18 F18 ?_ m18 g18⟩)
        rw [ed]; exact h18
      · have e4 : x.1.op ≠ 4 := by simpa using h4'
        have ed : (decide (x.1.op ≠ 4 ∨ x.1.ins = x.1.outs)) = true := by simp [e4]
        refine WalkPost.go (F0 := F8) (W0 := W8) ent_valid_walker_must (must_spec' h8.at _) (Mod.refl _ _) (Grows.refl _ _) (fun W18 F18 h18 _ _ m18 g18 => ⟨rfl, fin W18 F18 ?_ m18 g18⟩)
        rw [ed]; exact h18
end
end Go.Proofs.YtacjnpahlbibhaaDoor
end
section
/- Contracts of the walker: jump. -/
set_option linter.unusedVariables false
set_option linter.unusedSimpArgs false
set_option maxRecDepth 100000
namespace Go.Proofs.YtacjnpahlbibhaaDoor
open Go Go.RowKit

def Wk.Ty (k : Wk) : Prop := ∀ b ∈ k.blocks, b.ins.length ≤ 32 ∧ b.outs.length ≤ 32
theorem Wk.Ty.of {k k' : Wk} (h : k.Ty) (e : k'.blocks = k.blocks) : k'.Ty := by unfold Wk.Ty; rw [e]; exact h
theorem Wk.label_len {k : Wk} (h : k.Ty) (l : Int) : (k.label l).1.length ≤ 32 := by
  unfold Wk.label
  split
  · simp
  · split
    · simp
    · rename_i b hb
      have := h b (List.mem_of_getElem? hb)
      show (if b.op = 3 then b.ins else b.outs).length ≤ 32
      split <;> omega
theorem Wk.tableGo_ok (n : Int) (l : List Int) : ∀ (k : Wk), k.Ok → k.Ty → (k.tableGo n l).Ok ∧ (k.tableGo n l).blocks = k.blocks ∧ (k.tableGo n l).stack.length ≤ k.stack.length + 32 * l.length := by
  induction l with
  | nil => intro k h1 h2; exact ⟨h1, rfl, by simp [Wk.tableGo]⟩
  | cons a r ih =>
    intro k h1 h2
    obtain ⟨e1, e2⟩ := Wk.label_blocks k a
    have hl := Wk.label_len h2 a
    have o1 : ((k.label a).2.must ((((k.label a).1.length : Nat) : Int) == n)).Ok := (h1.label a).must _
    have o2 := o1.again (k.label a).1
    have hb : (((k.label a).2.must ((((k.label a).1.length : Nat) : Int) == n)).again (k.label a).1).blocks = k.blocks := (Wk.again_blocks o1 _).trans e1
    obtain ⟨g1, g2, g3⟩ := ih _ o2 (h2.of hb)
    have hs := Wk.again_len o1 (k.label a).1
    have hs' : ((k.label a).2.must ((((k.label a).1.length : Nat) : Int) == n)).stack.length = k.stack.length := by show (k.label a).2.stack.length = _; rw [e2]
    refine ⟨g1, g2.trans hb, ?_⟩
    rw [List.length_cons, Wk.tableGo]
    omega
section
variable {W : World} {q : Addr} {F X : Nat → Prop} {S : MSl} {m : Module} {lc : List Int} {k : Wk} {wb : Nat} {sl ss sb : Sl} {bs : List BlkM}
/-- What follows a label. -/
theorem LabelPost.go {types : List Int} {k' : Wk} {W0 : World} {F0 : Nat → Prop} {f : FuncId} {args : Array Value} {K : Value → World → Prop} (he : Ent Tryd.prog f) (h : Calls Tryd.prog f args W (LabelPost W q F X S m lc types k')) (hm : Mod F0 W0 W) (hg : Grows F0 W0 F)
    (hk : ∀ (t : Sl) W' F', WalkAt W' q F' X S m lc k' → Ints (offS W' (FX F' X)) t types → Mod F W W' → Grows F W F' → Mod F0 W0 W' → Grows F0 W0 F' → K t.v W') : CallV Tryd.prog f args W K := by
  refine CallV.mk he h ?_
  rintro e W' ⟨t, rfl, F', h1, h2, h3, h4⟩
  exact ⟨_, rfl, hk t W' F' h1 h4 h2 h3 (hm.steps h2 hg) (hg.trans h3 hm.size)⟩
theorem jump_spec (h : WalkAt W q F X S m lc k) (hX : ∀ b, X b → b < W.heap.size) (hk : k.Ok) (ht : k.Ty) (x : Instr) (sx : Sl) (hx : Ints (offS W (FX F X)) sx x.l) (hb : k.blocks.length + 2 ≤ big) (hs : k.stack.length + 32 * x.l.length + 64 ≤ big) (ha : x.op ≠ 0 → x.op ≠ 15 → 0 ≤ x.a) (hl : x.op = 14 → ∀ l ∈ x.l, 0 ≤ l) :
    Calls Tryd.prog f_valid_walker_jump #[.pointer (some q), InsV x sx] W (WalkPost W q F X S m lc (.tuple #[]) (k.jump m lc x)) := by
  have hbig : k.blocks.length ≤ big := by omega
  refine of_valid_walker_jump _ _ _ _ _ _ _ _ _ ?_
  unfold V_valid_walker_jump
  refine Na.mk fun b3 W1 hb3 hm1 hz1 hc1 => ?_
  have lt3 := heap_lt hc1
  have h1 := h.mod0 hm1
  have n3 : ¬ F b3 := h.new (by omega)
  have hxl := hx.1
  have cc : ∀ (w : World), w.heap[b3]? = some (.cells #[.int .i64 x.op, .int .i64 x.a, .int .i64 x.b, .int .u64 x.lo, .int .u64 x.hi, sx.v] 40 (0, 0)) → ∀ (j : Nat) (v : Value), (#[.int .i64 x.op, .int .i64 x.a, .int .i64 x.b, .int .u64 x.lo, .int .u64 x.hi, sx.v] : Array Value)[j]? = some v → w.cell? ((⟨b3, 0, none⟩ : Addr).add j) = some v := by
    intro w hw j v hv
    rw [add_mk]
    exact cell_of_heap hw (by rw [Nat.zero_add]; exact hv)
  have g01 : Grows F W F := Grows.refl _ _
  have m01 : Mod F W W1 := Mod.of0 hm1
  refine ⟨x.op, cc _ hc1 0 _ rfl, Br.eq (fun e0 => ?_) (fun e0 => Br.eq (fun e12 => ?_) (fun e12 => Br.eq (fun e13 => ?_) (fun e13 => Br.eq (fun e14 => ?_) (fun e14 => Br.eq (fun e15 => ?_) (fun e15 => ?_)))))⟩
  · have ek : k.jump m lc x = k.die := by unfold Wk.jump; rw [if_pos e0]
    rw [ek]
    exact WalkPost.go ent_valid_walker_die (die_spec h1 hk hbig) m01 g01 (fun W2 F2 h2 _ _ m2 g2 => ⟨rfl, rfl, F2, h2, m2, g2⟩)
  · have ek : k.jump m lc x = ((k.label x.a).2.takes (k.label x.a).1).die := by unfold Wk.jump; rw [if_neg e0, if_pos e12]
    rw [ek]
    obtain ⟨e1, e2⟩ := Wk.label_blocks k x.a
    have hll := Wk.label_len ht x.a
    refine ⟨x.a, cc _ hc1 1 _ rfl, ?_⟩
    refine LabelPost.go ent_valid_walker_label (label_spec h1 hbig x.a (ha e0 (by omega))) m01 g01 (fun t W3 F3 h3 i3 _ _ m3 g3 => ⟨t, rfl, ?_⟩)
    refine WalkPost.go ent_valid_walker_takes (takes_spec h3 (hk.label _) (by rw [e1]; exact hbig) (by rw [e2]; omega) i3 (by unfold big; omega)) m3 g3 (fun W4 F4 h4 _ _ m4 g4 => ⟨rfl, ?_⟩)
    exact WalkPost.go ent_valid_walker_die (die_spec h4 ((hk.label _).takes _) (by rw [Wk.takes_blocks, e1]; exact hbig)) m4 g4 (fun W5 F5 h5 _ _ m5 g5 => ⟨rfl, rfl, F5, h5, m5, g5⟩)
  · have ek : k.jump m lc x = (((k.take 127).2.label x.a).2.takes ((k.take 127).2.label x.a).1).gives ((k.take 127).2.label x.a).1 := by unfold Wk.jump; rw [if_neg e0, if_neg e12, if_pos e13]
    rw [ek]
    have hkt := hk.take 127
    have hbt := Wk.take_blocks k 127
    have hst := Wk.take_len k 127
    obtain ⟨e1, e2⟩ := Wk.label_blocks (k.take 127).2 x.a
    have hll := Wk.label_len (ht.of hbt) x.a
    have htl := Wk.takes_len ((k.take 127).2.label x.a).2 ((k.take 127).2.label x.a).1
    rw [e2] at htl
    refine WalkPost.go ent_valid_walker_take (take_spec h1 hk hbig (by omega) 127) m01 g01 (fun W6 F6 h6 m16 g16 m6 g6 => ⟨_, rfl, x.a, cc _ (m16.heap hc1 n3) 1 _ rfl, ?_⟩)
    refine LabelPost.go ent_valid_walker_label (label_spec h6 (by rw [hbt]; exact hbig) x.a (ha e0 (by omega))) m6 g6 (fun t W7 F7 h7 i7 _ _ m7 g7 => ⟨t, rfl, ?_⟩)
    refine WalkPost.go ent_valid_walker_takes (takes_spec h7 (hkt.label _) (by rw [e1, hbt]; exact hbig) (by rw [e2]; omega) i7 (by unfold big; omega)) m7 g7 (fun W8 F8 h8 m78 g78 m8 g8 => ⟨rfl, ?_⟩)
    exact WalkPost.go ent_valid_walker_gives (gives_spec h8 (offS_sub _ _) (Ints.mono i7 (offS_step m78 g78)) (by omega)) m8 g8 (fun W9 F9 h9 _ _ m9 g9 => ⟨rfl, rfl, F9, h9, m9, g9⟩)
  · have ek : k.jump m lc x = ((((k.take 127).2.label x.a).2.tableGo ((k.take 127).2.label x.a).1.length x.l).takes ((k.take 127).2.label x.a).1).die := by unfold Wk.jump; rw [if_neg e0, if_neg e12, if_neg e13, if_pos e14]
    rw [ek]
    have hkt := hk.take 127
    have hbt := Wk.take_blocks k 127
    have hst := Wk.take_len k 127
    obtain ⟨e1, e2⟩ := Wk.label_blocks (k.take 127).2 x.a
    have hll := Wk.label_len (ht.of hbt) x.a
    have hbl := e1.trans hbt
    refine WalkPost.go ent_valid_walker_take (take_spec h1 hk hbig (by omega) 127) m01 g01 (fun W6 F6 h6 m16 g16 m6 g6 => ⟨_, rfl, x.a, cc _ (m16.heap hc1 n3) 1 _ rfl, ?_⟩)
    have c6 := m16.heap hc1 n3
    have n6 := g16.keep lt3 n3
    refine LabelPost.go ent_valid_walker_label (label_spec h6 (by rw [hbt]; exact hbig) x.a (ha e0 (by omega))) m6 g6 (fun t W11 F11 h11 i11 m611 g611 m11 g11 => ⟨t, rfl, sx, cc _ (m611.heap c6 n6) 5 _ rfl, ?_⟩)
    obtain ⟨k0, hk0⟩ : ∃ k0, k0 = ((k.take 127).2.label x.a).2 := ⟨_, rfl⟩
    obtain ⟨ls, hls⟩ : ∃ ls, ls = ((k.take 127).2.label x.a).1 := ⟨_, rfl⟩
    rw [← hk0] at h11 hbl
    rw [← hls] at i11 hll
    rw [← hk0, ← hls]
    have hok0 : k0.Ok := hk0 ▸ hkt.label x.a
    have hs0 : k0.stack.length ≤ k.stack.length := by rw [hk0, e2]; exact hst
    have htl := i11.1
    unfold big at hs
    intro L hL
    have key : ∀ (n j : Nat) (k1 : Wk) (W12 : World) (F12 : Nat → Prop), n = x.l.length - j → j ≤ x.l.length → WalkAt W12 q F12 X S m lc k1 → k1.Ok → k1.blocks = k.blocks → k1.stack.length ≤ k.stack.length + 32 * j → Ints (offS W12 (FX F12 X)) t ls →
        k0.tableGo ls.length x.l = k1.tableGo ls.length (x.l.drop j) → Mod F W W12 → Grows F W F12 → L (j : Int) W12 := by
      intro n
      induction n with
      | zero =>
        intro j k1 W12 F12 hn hj h12 o12 b12 s12 i12 he m12 g12
        have hj : j = x.l.length := by omega
        refine hL _ _ (Br.dec (fun h => by omega) (fun _ => ?_))
        rw [hj, List.drop_length] at he
        rw [he]
        refine WalkPost.go ent_valid_walker_takes (takes_spec h12 o12 (by rw [b12]; exact hbig) (by unfold big; omega) i12 (by unfold big; omega)) m12 g12 (fun W16 F16 h16 _ _ m16 g16 => ⟨rfl, ?_⟩)
        exact WalkPost.go ent_valid_walker_die (die_spec h16 (o12.takes _) (by rw [Wk.takes_blocks, b12]; exact hbig)) m16 g16 (fun W5 F5 h5 _ _ m5 g5 => ⟨rfl, rfl, F5, h5, m5, g5⟩)
      | succ n ih =>
        intro j k1 W12 F12 hn hj h12 o12 b12 s12 i12 he m12 g12
        have hlt : j < x.l.length := by omega
        rw [List.drop_eq_getElem_cons hlt, Wk.tableGo] at he
        refine hL _ _ (Br.dec (fun _ => ?_) (fun h => absurd (by omega) h))
        have hx12 := Ints.mono hx (offS_step m12 g12)
        obtain ⟨p, hp, hc⟩ := hx12.get hlt
        have ht1 : k1.Ty := ht.of b12
        obtain ⟨f1, f2⟩ := Wk.label_blocks k1 x.l[j]
        have hl1 := Wk.label_len ht1 x.l[j]
        refine ⟨p, ⟨hp, by omega, by omega⟩, _, offS_sub _ _ _ _ hc, ?_⟩
        refine LabelPost.go ent_valid_walker_label (label_spec h12 (by rw [b12]; exact hbig) _ (hl e14 _ (List.getElem_mem hlt))) m12 g12 (fun t' W13 F13 h13 i13 m1213 g1213 m13 g13 => ⟨t', rfl, ?_⟩)
        have ht' := i13.1
        rw [ht', htl]
        refine WalkPost.go ent_valid_walker_must (must_spec' h13 _) m13 g13 (fun W14 F14 h14 m1314 g1314 m14 g14 => ⟨rfl, ?_⟩)
        have o14 : ((k1.label x.l[j]).2.must ((((k1.label x.l[j]).1.length : Nat) : Int) == (ls.length : Int))).Ok := (o12.label _).must _
        have s14 : ((k1.label x.l[j]).2.must ((((k1.label x.l[j]).1.length : Nat) : Int) == (ls.length : Int))).stack.length = k1.stack.length := by show (k1.label x.l[j]).2.stack.length = _; rw [f2]
        have b14 : ((k1.label x.l[j]).2.must ((((k1.label x.l[j]).1.length : Nat) : Int) == (ls.length : Int))).blocks = k.blocks := f1.trans b12
        have hag := Wk.again_len o14 (k1.label x.l[j]).1
        refine WalkPost.go ent_valid_walker_again (again_spec h14 (fun b x => Nat.lt_of_lt_of_le (hX b x) m14.size) o14 (by rw [b14]; exact hbig) (Ints.mono i13 (offS_step m1314 g1314)) (by unfold big; omega)) m14 g14 (fun W15 F15 h15 m1415 g1415 m15 g15 => ⟨rfl, ?_⟩)
        rw [wrap_id (by omega) (by omega)]
        exact ih (j + 1) _ W15 F15 (by omega) hlt h15 (o14.again _) ((Wk.again_blocks o14 _).trans b14) (by omega) (Ints.mono (Ints.mono (Ints.mono i12 (offS_step m1213 g1213)) (offS_step m1314 g1314)) (offS_step m1415 g1415)) he m15 g15
    exact key x.l.length 0 k0 W11 F11 (by omega) (by omega) h11 hok0 hbl (by omega) i11 rfl m11 g11
  · obtain ⟨wb, sl, ss, sb, bs, rfl, g1⟩ := h1
    obtain ⟨b0, hb0⟩ : ∃ b0, k.blocks.head? = some b0 := ⟨_, List.head?_eq_some_head hk.ne⟩
    have ek : k.jump m lc x = (k.takes b0.outs).die := by
      unfold Wk.jump; rw [if_neg e0, if_neg e12, if_neg e13, if_neg e14, if_pos e15, hb0]
    rw [ek]
    have hbm0 : b0 ∈ k.blocks := List.mem_of_head? hb0
    have htb := ht b0 hbm0
    obtain ⟨y, hy, hy0⟩ : ∃ y, bs[0]? = some y ∧ y.1 = b0 := by
      rw [← g1.bk, List.head?_map, List.head?_eq_getElem?] at hb0
      cases hbs : bs[0]? with
      | none => rw [hbs] at hb0; simp at hb0
      | some y => rw [hbs] at hb0; exact ⟨y, rfl, by simpa using hb0⟩
    obtain ⟨g, hg, hF, hc⟩ := g1.bat hy
    have hsb := g1.sblen
    have hpos : 0 < k.blocks.length := List.length_pos_iff.2 hk.ne
    refine ⟨_, rfl, sb, by rw [add_mk]; exact cell_of_heap g1.blk rfl, _, ⟨hg, by omega, by omega⟩, y.2.2, hc 3 _ rfl, ?_⟩
    have hio := (g1.io y (List.mem_of_getElem? hy)).2
    rw [hy0] at hio
    refine WalkPost.go ent_valid_walker_takes (takes_spec g1.at hk hbig (by omega) hio (by unfold big; omega)) m01 g01 (fun W18 F18 h18 _ _ m18 g18 => ⟨rfl, ?_⟩)
    exact WalkPost.go ent_valid_walker_die (die_spec h18 (hk.takes _) (by rw [Wk.takes_blocks]; exact hbig)) m18 g18 (fun W5 F5 h5 _ _ m5 g5 => ⟨rfl, rfl, F5, h5, m5, g5⟩)
  · have ek : k.jump m lc x = k.varIn m lc x.op x.a := by unfold Wk.jump; rw [if_neg e0, if_neg e12, if_neg e13, if_neg e14, if_neg e15]
    rw [ek]
    refine ⟨_, cc _ hc1 0 _ rfl, _, cc _ hc1 1 _ rfl, _, cc _ hc1 2 _ rfl, _, cc _ hc1 3 _ rfl, _, cc _ hc1 4 _ rfl, sx, cc _ hc1 5 _ rfl, ?_⟩
    exact WalkPost.go ent_valid_walker_variable (variable_spec h1 hk hbig (by omega) x sx (ha e0 e15)) m01 g01 (fun W5 F5 h5 _ _ m5 g5 => ⟨rfl, rfl, F5, h5, m5, g5⟩)
end
end Go.Proofs.YtacjnpahlbibhaaDoor
end
section
/- Contracts of the walker: step. -/
set_option linter.unusedVariables false
set_option linter.unusedSimpArgs false
set_option maxRecDepth 100000
namespace Go.Proofs.YtacjnpahlbibhaaDoor
open Go Go.RowKit

theorem nint_store {W0 Wa Wb Wc : World} {t : Sl} {xs : List Int} {b8 : Nat} (h : Nint Wa Wb t xs) (m : Mod (fun k => k = b8) Wb Wc) (h8 : b8 < Wa.heap.size) (h0 : W0.heap.size ≤ b8) (hm : Mod NoB W0 Wa) : Nint W0 Wc t xs :=
  ⟨h.own.mod m (fun b hb e => by have := h.fresh b hb; omega), (hm.trans0 h.mod).trans m (fun i hi e => by omega), fun b hb => by have := h.fresh b hb; omega⟩
section
variable {W : World} {q : Addr} {F X : Nat → Prop} {S : MSl} {m : Module} {lc : List Int} {k : Wk} {wb : Nat} {sl ss sb : Sl} {bs : List BlkM}
theorem WalkIn.modc (h : WalkIn W F X S m lc wb sl ss sb bs k) : ∀ (j : Nat) (v : Value), (#[S.types.v, S.imports.v, S.funcs.v, S.tables.v, S.mems.v, S.globals.v, S.exports.v, .int .i64 m.start, S.elems.v, S.codes.v, S.datas.v, sl.v, ss.v, sb.v, .bool k.bad] : Array Value)[j]? = some v → W.cell? (((⟨wb, 0, none⟩ : Addr).add 0).add j) = some v := by
  intro j v hv
  rw [add_zero, add_mk]
  exact cell_of_heap h.blk (by rw [Nat.zero_add]; exact hv)
/-- What an instruction must meet, for a step not to fail. -/
structure StepOk (m : Module) (x : Instr) : Prop where
  a : -9223372036854775808 ≤ x.a ∧ x.a ≤ 9223372036854775807
  l8 : (instrOf x.op).1.form = 8 → 0 ≤ (instrOf x.op).1.limit
  ios : (instrOf x.op).1.ins.length ≤ 1000 ∧ (instrOf x.op).1.outs.length ≤ 1000
  pos : (instrOf x.op).1.plain = false → x.op ≠ 0 → x.op ≠ 15 → ¬ (x.op = 2 ∨ x.op = 3 ∨ x.op = 4) → ¬ (x.op = 5 ∨ x.op = 11) → x.op ≠ 26 → x.op ≠ 27 → x.op ≠ 16 → x.op ≠ 17 → 0 ≤ x.a
  ls : x.op = 14 → ∀ l ∈ x.l, 0 ≤ l
def TyM (m : Module) : Prop := ∀ t ∈ m.types, t.ins.length ≤ 32 ∧ t.outs.length ≤ 32
theorem kindOf_len {m : Module} (h : TyM m) (a : Int) : (kindOf m a).1.ins.length ≤ 32 ∧ (kindOf m a).1.outs.length ≤ 32 := by
  unfold kindOf
  split
  · exact h _ (List.getElem_mem _)
  · simp
theorem sig_len {m : Module} (h : TyM m) (k : Wk) (a : Int) : (k.sig m a).1.ins.length ≤ 32 ∧ (k.sig m a).1.outs.length ≤ 32 := by
  unfold Wk.sig
  split
  · exact kindOf_len h a
  · split <;> simp
theorem sig_wk (m : Module) (k : Wk) (a : Int) : (k.sig m a).2.blocks = k.blocks ∧ (k.sig m a).2.stack = k.stack := by
  unfold Wk.sig
  split
  · exact ⟨rfl, rfl⟩
  · split <;> exact ⟨rfl, rfl⟩
theorem step_spec (h : WalkAt W q F X S m lc k) (hX : ∀ b, X b → b < W.heap.size) (hk : k.Ok) (ht : k.Ty) (x : Instr) (sx : Sl) (hx : Ints (offS W (FX F X)) sx x.l) (hb : k.blocks.length + 2 ≤ big) (hs : k.stack.length + 32 * x.l.length + 2000 ≤ big) (hT : TyM m) (hso : StepOk m x) :
    Calls Tryd.prog f_valid_walker_step #[.pointer (some q), InsV x sx] W (WalkPost W q F X S m lc (.tuple #[]) (k.step m lc (instrOf x.op).1 x)) := by
  have hbig : k.blocks.length ≤ big := by omega
  refine of_valid_walker_step _ _ _ _ _ _ _ _ _ ?_
  unfold V_valid_walker_step
  refine Na.mk fun b3 W1 hb3 hm1 hz1 hc1 => ?_
  have lt3 := heap_lt hc1
  have n3 : ¬ F b3 := h.new (by omega)
  have cc : ∀ (w : World), w.heap[b3]? = some (.cells #[.int .i64 x.op, .int .i64 x.a, .int .i64 x.b, .int .u64 x.lo, .int .u64 x.hi, sx.v] 40 (0, 0)) → ∀ (j : Nat) (v : Value), (#[.int .i64 x.op, .int .i64 x.a, .int .i64 x.b, .int .u64 x.lo, .int .u64 x.hi, sx.v] : Array Value)[j]? = some v → w.cell? ((⟨b3, 0, none⟩ : Addr).add j) = some v := by
    intro w hw j v hv
    rw [add_mk]
    exact cell_of_heap hw (by rw [Nat.zero_add]; exact hv)
  refine ⟨x.op, cc _ hc1 0 _ rfl, ?_⟩
  refine CallV.mk ent_instr_Of (Of_spec W1 x.op) ?_
  rintro e W2 ⟨sI, sO, rfl, oI, oO, hm2, fI, fO⟩
  obtain ⟨i, hi⟩ : ∃ i, i = (instrOf x.op).1 := ⟨_, rfl⟩
  have hios := hso.ios
  have hl8 := hso.l8
  have hpos := hso.pos
  rw [← hi] at oI oO hios hl8 hpos ⊢
  refine ⟨_, rfl, i.form, i.limit, i.plain, sI, sO, _, rfl, ?_⟩
  refine Na.mk fun b4 W3 hb4 hm3 hz3 hc3 => ?_
  have lt4 := heap_lt hc3
  refine stC_at (b := b4) (o := 0) rfl hc3 (by simp) (by simp [Value.oneCell', Sl.v]) (fun W4 c4 m4 sz4 => ?_)
  rw [setL_all (by simp)] at c4
  have hm24 : Mod NoB W2 W4 := hm3.trans m4 (fun i hi e => by omega)
  have hm14 := hm2.trans0 hm24
  have hm04 := hm1.trans0 hm14
  have h4 := h.mod0 hm04
  have c3 := hm14.heap hc1 (fun h => h)
  have z2 := hm2.size
  have n4 : ¬ F b4 := h.new (by have := hm1.size; omega)
  have l3 := heap_lt c3
  have l4 := heap_lt c4
  have m04 : Mod F W W4 := Mod.of0 hm04
  have g04 : Grows F W F := Grows.refl _ _
  have hx4 := Ints.mono hx (offS_mod0 hm04)
  have ci : ∀ (w : World), w.heap[b4]? = some (.cells #[.int .i64 i.form, .int .i64 i.limit, .bool i.plain, sI.v, sO.v] 131 (0, 0)) → ∀ (j : Nat) (v : Value), (#[.int .i64 i.form, .int .i64 i.limit, .bool i.plain, sI.v, sO.v] : Array Value)[j]? = some v → w.cell? ((⟨b4, 0, none⟩ : Addr).add j) = some v := by
    intro w hw j v hv
    rw [add_mk]
    exact cell_of_heap hw (by rw [Nat.zero_add]; exact hv)
  have hFW := h.lt
  have hFX : ∀ b, FX F X b → b < W1.heap.size := fun b y => y.elim (fun z => by have := hFW b z; omega) (fun z => by have := hX b z; omega)
  have rI : Ints (offS W4 (FX F X)) sI i.ins := Nint.rd (W := W1) ⟨oI.mod0 hm24, hm14, fI⟩ hFX
  have rO : Ints (offS W4 (FX F X)) sO i.outs := Nint.rd (W := W1) ⟨oO.mod0 hm24, hm14, fO⟩ hFX
  refine ⟨i.plain, ci _ c4 2 _ rfl, Br.mk (fun hp => ?_) (fun hp => ?_)⟩
  · have ek : k.step m lc i x = ((k.fields m x i.form i.limit).takes i.ins).gives i.outs := by unfold Wk.step; rw [if_pos hp]
    rw [ek]
    have hfk : (k.fields m x i.form i.limit).blocks = k.blocks ∧ (k.fields m x i.form i.limit).stack = k.stack := by
      unfold Wk.fields
      split
      · exact ⟨rfl, rfl⟩
      · split
        · exact ⟨rfl, rfl⟩
        · split
          · have : ∀ (l : List Int) (k : Wk), (l.foldl (fun k c => k.must (decide (c < 32))) k).blocks = k.blocks ∧ (l.foldl (fun k c => k.must (decide (c < 32))) k).stack = k.stack := by
              intro l
              induction l with
              | nil => intro k; exact ⟨rfl, rfl⟩
              | cons a r ih => intro k; rw [List.foldl_cons]; exact ih _
            exact this _ _
          · exact ⟨rfl, rfl⟩
    have hfo : (k.fields m x i.form i.limit).Ok := ⟨by rw [hfk.1]; exact hk.ne, by rw [hfk.1]; exact hk.up, by rw [hfk.1, hfk.2]; exact hk.le⟩
    refine ⟨_, cc _ c3 0 _ rfl, _, cc _ c3 1 _ rfl, _, cc _ c3 2 _ rfl, _, cc _ c3 3 _ rfl, _, cc _ c3 4 _ rfl, sx, cc _ c3 5 _ rfl, _, ci _ c4 0 _ rfl, _, ci _ c4 1 _ rfl, _, ci _ c4 2 _ rfl, sI, ci _ c4 3 _ rfl, sO, ci _ c4 4 _ rfl, ?_⟩
    refine WalkPost.go ent_valid_walker_fields (fields_spec h4 x sx i sI sO hl8) m04 g04 (fun W5 F5 h5 m45 g45 m5 g5 => ⟨rfl, sI, ci _ (m45.heap c4 n4) 3 _ rfl, ?_⟩)
    have rI5 := Ints.mono rI (offS_step m45 g45)
    have rO5 := Ints.mono rO (offS_step m45 g45)
    have htl := Wk.takes_len (k.fields m x i.form i.limit) i.ins
    rw [hfk.2] at htl
    refine WalkPost.go ent_valid_walker_takes (takes_spec h5 hfo (by rw [hfk.1]; exact hbig) (by rw [hfk.2]; omega) rI5 (by omega)) m5 g5 (fun W6 F6 h6 m56 g56 m6 g6 => ⟨rfl, sO, ci _ (m56.heap (m45.heap c4 n4) (g45.keep l4 n4)) 4 _ rfl, ?_⟩)
    exact WalkPost.go ent_valid_walker_gives (gives_spec h6 (offS_sub _ _) (Ints.mono rO5 (offS_step m56 g56)) (by omega)) m6 g6 (fun W7 F7 h7 _ _ m7 g7 => ⟨rfl, rfl, F7, h7, m7, g7⟩)
  · have hnp : ¬ (i.plain = true) := by rw [hp]; simp
    refine ⟨x.op, cc _ c3 0 _ rfl, ?_⟩
    intro J hJ
    have fin : ∀ b : Bool, b = decide (x.op = 2 ∨ x.op = 3 ∨ x.op = 4) → J b W4 := by
      intro b hbd
      refine hJ _ _ (Br.mk (fun hbt => ?_) (fun hbf => ?_))
      · have hop : x.op = 2 ∨ x.op = 3 ∨ x.op = 4 := by rw [hbd] at hbt; exact of_decide_eq_true hbt
        intro J1 hJ1
        have fin1 : ∀ (W9 : World) (F9 : Nat → Prop) (k9 : Wk), WalkAt W9 q F9 X S m lc k9 → Mod F W4 W9 → Grows F W4 F9 → k9.Ok → k9.Ty → k9.blocks = k.blocks → k9.stack.length ≤ k.stack.length →
            k.step m lc i x = (((k9.sig m x.a).2.takes (k9.sig m x.a).1.ins).open x.op (k9.sig m x.a).1.ins (k9.sig m x.a).1.outs).gives (k9.sig m x.a).1.ins → J1 W9 := by
          intro W9 F9 k9 h9 m49 g49 o9 t9 b9 s9 ek
          refine hJ1 _ ⟨x.a, cc _ (m49.heap c3 n3) 1 _ rfl, ?_⟩
          rw [ek]
          have m9 := m04.steps m49 g04
          have g9 := g04.trans g49 m04.size
          have c39 := m49.heap c3 n3
          have n39 := g49.keep l3 n3
          have l39 := heap_lt c39
          obtain ⟨sgb, sgs⟩ := sig_wk m k9 x.a
          have sgl := sig_len hT k9 x.a
          have sgo : (k9.sig m x.a).2.Ok := ⟨by rw [sgb]; exact o9.ne, by rw [sgb]; exact o9.up, by rw [sgb, sgs]; exact o9.le⟩
          refine CallV.mk ent_valid_walker_sig (sig_spec h9 (fun b y => Nat.lt_of_lt_of_le (hX b y) m9.size) x.a hso.a.1) ?_
          rintro e W10 ⟨s0, s1, rfl, F10, h10, m910, g910, r0, r1⟩
          refine ⟨_, rfl, s0, s1, rfl, ?_⟩
          have m10 := m9.steps m910 g9
          have g10 := g9.trans g910 m9.size
          have c310 := m910.heap c39 n39
          have n310 := g910.keep l39 n39
          refine Na.mk fun b6 W11 hb6 hm11 hz11 hc11 => ?_
          have lt6 := heap_lt hc11
          refine stC_at (b := b6) (o := 0) rfl hc11 (by simp) (by simp [Value.oneCell', Sl.v]) (fun W12 c6 m12 sz12 => ?_)
          rw [setL_all (by simp)] at c6
          have hm1012 : Mod NoB W10 W12 := hm11.trans m12 (fun i hi e => by omega)
          have h12 := h10.mod0 hm1012
          have n6 : ¬ F10 b6 := h10.new (by omega)
          have l6 := heap_lt c6
          have r0' := Ints.mono r0 (offS_mod0 (F := FX F10 X) hm1012)
          have r1' := Ints.mono r1 (offS_mod0 (F := FX F10 X) hm1012)
          have c312 := hm1012.heap c310 (fun h => h)
          refine ⟨s0, by rw [add_mk]; exact cell_of_heap c6 rfl, ?_⟩
          refine WalkPost.go (F0 := F) (W0 := W) ent_valid_walker_takes (takes_spec h12 sgo (by rw [sgb, b9]; exact hbig) (by rw [sgs]; omega) r0' (by unfold big; omega)) (m10.trans0 hm1012) g10 (fun W13 F13 h13 m1213 g1213 m13 g13 => ⟨rfl, x.op, cc _ (m1213.heap c312 n310) 0 _ rfl, s0, ?_⟩)
          have c613 := m1213.heap c6 n6
          have n613 := g1213.keep l6 n6
          refine ⟨by rw [add_mk]; exact cell_of_heap c613 rfl, s1, by rw [add_mk]; exact cell_of_heap c613 rfl, ?_⟩
          have r013 := Ints.mono r0' (offS_step m1213 g1213)
          have r113 := Ints.mono r1' (offS_step m1213 g1213)
          have htl := Wk.takes_len (k9.sig m x.a).2 (k9.sig m x.a).1.ins
          rw [sgs] at htl
          refine WalkPost.go ent_valid_walker_open (open_spec h13 (by rw [Wk.takes_blocks, sgb, b9]; omega) r013 r113 x.op) m13 g13 (fun W14 F14 h14 m1314 g1314 m14 g14 => ⟨rfl, s0, by rw [add_mk]; exact cell_of_heap (m1314.heap c613 n613) rfl, ?_⟩)
          exact WalkPost.go ent_valid_walker_gives (gives_spec h14 (offS_sub _ _) (Ints.mono r013 (offS_step m1314 g1314)) (by show ((k9.sig m x.a).2.takes (k9.sig m x.a).1.ins).stack.length + _ ≤ big; omega)) m14 g14 (fun W15 F15 h15 _ _ m15 g15 => ⟨rfl, rfl, F15, h15, m15, g15⟩)
        have ek : k.step m lc i x = ((((if x.op = 4 then (k.take 127).2 else k).sig m x.a).2.takes ((if x.op = 4 then (k.take 127).2 else k).sig m x.a).1.ins).open x.op ((if x.op = 4 then (k.take 127).2 else k).sig m x.a).1.ins ((if x.op = 4 then (k.take 127).2 else k).sig m x.a).1.outs).gives ((if x.op = 4 then (k.take 127).2 else k).sig m x.a).1.ins := by
          unfold Wk.step; rw [if_neg hnp, if_pos hop]
        refine ⟨x.op, cc _ c3 0 _ rfl, Br.eq (fun e4 => ?_) (fun e4 => ?_)⟩
        · rw [if_pos e4] at ek
          refine WalkPost.go (F0 := F) (W0 := W4) ent_valid_walker_take (take_spec h4 hk hbig (by omega) 127) (Mod.refl _ _) (Grows.refl _ _) (fun W16 F16 h16 _ _ m16 g16 => ⟨_, rfl, ?_⟩)
          exact fin1 W16 F16 _ h16 m16 g16 (hk.take _) (ht.of (Wk.take_blocks _ _)) (Wk.take_blocks _ _) (Wk.take_len _ _) ek
        · rw [if_neg e4] at ek
          exact fin1 W4 F k h4 (Mod.refl _ _) (Grows.refl _ _) hk ht rfl (Nat.le_refl _) ek
      · have hop : ¬ (x.op = 2 ∨ x.op = 3 ∨ x.op = 4) := by rw [hbd] at hbf; exact of_decide_eq_false hbf
        intro J2 hJ2
        have fin2 : ∀ b : Bool, b = decide (x.op = 5 ∨ x.op = 11) → J2 b W4 := by
          intro b hbd
          refine hJ2 _ _ (Br.mk (fun hbt => ?_) (fun hbf => ?_))
          · have hop2 : x.op = 5 ∨ x.op = 11 := by rw [hbd] at hbt; exact of_decide_eq_true hbt
            have ek : k.step m lc i x = k.close x.op := by unfold Wk.step; rw [if_neg hnp, if_neg hop, if_pos hop2]
            rw [ek]
            refine ⟨x.op, cc _ c3 0 _ rfl, ?_⟩
            exact WalkPost.go ent_valid_walker_close (close_spec h4 hk ht hb (by omega) x.op) m04 g04 (fun W7 F7 h7 _ _ m7 g7 => ⟨rfl, rfl, F7, h7, m7, g7⟩)
          · have hop2 : ¬ (x.op = 5 ∨ x.op = 11) := by rw [hbd] at hbf; exact of_decide_eq_false hbf
            refine Br.eq (fun e26 => ?_) (fun e26 => Br.eq (fun e27 => ?_) (fun e27 => Br.eq (fun e16 => ?_) (fun e16 => Br.eq (fun e17 => ?_) (fun e17 => ?_))))
            · have ek : k.step m lc i x = (k.take 0).2 := by unfold Wk.step; rw [if_neg hnp, if_neg hop, if_neg hop2, if_pos e26]
              rw [ek]
              exact WalkPost.go ent_valid_walker_take (take_spec h4 hk hbig (by omega) 0) m04 g04 (fun W7 F7 h7 _ _ m7 g7 => ⟨_, rfl, rfl, F7, h7, m7, g7⟩)
            · have ek : k.step m lc i x = k.selIn := by unfold Wk.step; rw [if_neg hnp, if_neg hop, if_neg hop2, if_neg e26, if_pos e27]
              rw [ek]
              have hk1 := hk.take 127
              have hk2 := hk1.take 0
              have s1 := Wk.take_len k 127
              have s2 := Wk.take_len (k.take 127).2 0
              have s3 := Wk.take_len ((k.take 127).2.take 0).2 ((k.take 127).2.take 0).1
              have b1 := Wk.take_blocks k 127
              have b2 := Wk.take_blocks (k.take 127).2 0
              refine WalkPost.go ent_valid_walker_take (take_spec h4 hk hbig (by omega) 127) m04 g04 (fun W20 F20 h20 _ _ m20 g20 => ⟨_, rfl, ?_⟩)
              refine WalkPost.go ent_valid_walker_take (take_spec h20 hk1 (by rw [b1]; exact hbig) (by omega) 0) m20 g20 (fun W21 F21 h21 _ _ m21 g21 => ⟨_, rfl, ?_⟩)
              refine WalkPost.go ent_valid_walker_take (take_spec h21 hk2 (by rw [b2, b1]; exact hbig) (by omega) _) m21 g21 (fun W22 F22 h22 _ _ m22 g22 => ⟨_, rfl, ?_⟩)
              refine Na.mk fun b6 W23 hb6 hm23 hz23 hc23 => ?_
              exact WalkPost.go (F0 := F) (W0 := W) ent_valid_walker_gives (gives_spec (s := ⟨some ⟨b6, 0, none⟩, 1, 1⟩) (xs := [_]) (h22.mod0 hm23) (Sub.self _) (one_int hc23) (by simp; omega)) (m22.trans0 hm23) g22 (fun W24 F24 h24 _ _ m24 g24 => ⟨rfl, rfl, F24, h24, m24, g24⟩)
            · have ek : k.step m lc i x = ((k.must (sigOf m x.a).2).takes (sigOf m x.a).1.ins).gives (sigOf m x.a).1.outs := by unfold Wk.step; rw [if_neg hnp, if_neg hop, if_neg hop2, if_neg e26, if_neg e27, if_pos e16]
              rw [ek]
              have sgl := kindOf_len hT (kidx m x.a)
              intro J3 hJ3
              have fin3 : ∀ (b8 : Nat) (W25 : World) (t0 t1 : Sl), Mod NoB W4 W25 → W4.heap.size ≤ b8 → W25.heap[b8]? = some (.cells #[t0.v, t1.v] 37 (0, 0)) → Nint W4 W25 t0 (sigOf m x.a).1.ins → Nint W4 W25 t1 (sigOf m x.a).1.outs → J3 ⟨b8, 0, none⟩ (sigOf m x.a).2 W25 := by
                intro b8 W25 t0 t1 hm25 hb8 c8 nt0 nt1
                refine hJ3 _ _ _ ?_
                have n8 : ¬ F b8 := h4.new hb8
                have hF4 : ∀ b, FX F X b → b < W4.heap.size := fun b y => y.elim (fun z => by have := hFW b z; have := m04.size; omega) (fun z => by have := hX b z; have := m04.size; omega)
                have r0 := nt0.rd hF4
                have r1 := nt1.rd hF4
                have l8 := heap_lt c8
                refine WalkPost.go ent_valid_walker_must (must_spec' (h4.mod0 hm25) _) (m04.trans0 hm25) g04 (fun W26 F26 h26 m2526 g2526 m26 g26 => ⟨rfl, t0, by rw [add_mk]; exact cell_of_heap (m2526.heap c8 n8) rfl, ?_⟩)
                have r026 := Ints.mono r0 (offS_step m2526 g2526)
                have r126 := Ints.mono r1 (offS_step m2526 g2526)
                have htl := Wk.takes_len (k.must (sigOf m x.a).2) (sigOf m x.a).1.ins
                have hms : (k.must (sigOf m x.a).2).stack.length = k.stack.length := rfl
                have hsl0 : (sigOf m x.a).1.ins.length ≤ 32 := sgl.1
                have hsl1 : (sigOf m x.a).1.outs.length ≤ 32 := sgl.2
                refine WalkPost.go ent_valid_walker_takes (takes_spec h26 (hk.must _) hbig (by omega) r026 (by unfold big; omega)) m26 g26 (fun W27 F27 h27 m2627 g2627 m27 g27 => ⟨rfl, t1, by rw [add_mk]; exact cell_of_heap (m2627.heap (m2526.heap c8 n8) (g2526.keep l8 n8)) rfl, ?_⟩)
                exact WalkPost.go ent_valid_walker_gives (gives_spec h27 (offS_sub _ _) (Ints.mono r126 (offS_step m2627 g2627)) (by omega)) m27 g27 (fun W28 F28 h28 _ _ m28 g28 => ⟨rfl, rfl, F28, h28, m28, g28⟩)
              refine Dw.mk fun W29 hm29 hh29 => ?_
              obtain ⟨wb, sl, ss, sb, bs, rfl, g4⟩ := h4
              have g29 := g4.mod0 hm29
              have c29 := hm29.heap c3 (fun h => h)
              refine ⟨fun w => WalkIn w F X S m lc wb sl ss sb bs k ∧ w.heap[b3]? = some (.cells #[.int .i64 x.op, .int .i64 x.a, .int .i64 x.b, .int .u64 x.lo, .int .u64 x.hi, sx.v] 40 (0, 0)), ⟨g29, c29⟩, _, rfl, _, fun w hw => hw.1.modc 0 _ rfl, _, fun w hw => hw.1.modc 1 _ rfl, _, fun w hw => hw.1.modc 2 _ rfl, _, fun w hw => hw.1.modc 3 _ rfl, _, fun w hw => hw.1.modc 4 _ rfl, _, fun w hw => hw.1.modc 5 _ rfl, _, fun w hw => hw.1.modc 6 _ rfl, _, fun w hw => hw.1.modc 7 _ rfl, _, fun w hw => hw.1.modc 8 _ rfl, _, fun w hw => hw.1.modc 9 _ rfl, _, fun w hw => hw.1.modc 10 _ rfl, x.a, fun w hw => cc _ hw.2 1 _ rfl, ?_, ?_⟩
              · refine CallV.mk ent_valid_Sig (Sig_spec (offS_sub W29 _) g29.mr x.a hso.a.2 g29.mr.tlen) ?_
                rintro e W30 ⟨t0, t1, rfl, nt0, nt1, hd⟩
                refine ⟨_, rfl, t0, t1, _, rfl, ?_⟩
                refine Na.mk fun b8 W31 hb8 hm31 hz31 hc31 => ?_
                have lt8 := heap_lt hc31
                have hm2931 := nt0.mod.trans0 hm31
                refine ⟨⟨g29.mod0 hm2931, hm2931.heap c29 (fun h => h)⟩, ?_⟩
                refine stC_at (b := b8) (o := 0) rfl hc31 (by simp) (by simp [Value.oneCell', Sl.v]) (fun W32 c8 m32 sz32 => ?_)
                rw [setL_all (by simp)] at c8
                have hm3032 : Mod NoB W30 W32 := hm31.trans m32 (fun i hi e => by omega)
                have z29 := hm29.size
                have z30 := nt0.mod.size
                have nt0' := nt0.mod0 hm3032
                have nt1' := nt1.mod0 hm3032
                exact fin3 b8 W32 t0 t1 ((hm29.trans0 nt0.mod).trans0 hm3032) (by omega) c8 ⟨nt0'.own, hm29.trans0 nt0'.mod, fun b hb => by have := nt0'.fresh b hb; omega⟩ ⟨nt1'.own, hm29.trans0 nt1'.mod, fun b hb => by have := nt1'.fresh b hb; omega⟩
              · refine Na.mk fun b8 W33 hb8 hm33 hz33 hc33 => ?_
                have lt8 := heap_lt hc33
                have g33 := g29.mod0 hm33
                refine ⟨⟨g33, hm33.heap c29 (fun h => h)⟩, ?_⟩
                refine CallV.mk ent_valid_Sig (Sig_spec (offS_sub W33 _) g33.mr x.a hso.a.2 g33.mr.tlen) ?_
                rintro e W34 ⟨t0, t1, rfl, nt0, nt1, hd⟩
                refine ⟨_, rfl, t0, t1, _, rfl, ?_⟩
                refine stC_at (b := b8) (o := 0) rfl (nt0.mod.heap hc33 (fun h => h)) (by simp) (by simp [Value.oneCell', Sl.v]) (fun W35 c8 m35 sz35 => ?_)
                rw [setL_all (by simp)] at c8
                have z29 := hm29.size
                have hm433 := hm29.trans0 hm33
                have k0 := nint_store (W0 := W4) nt0 m35 lt8 (by omega) hm433
                have k1 := nint_store (W0 := W4) nt1 m35 lt8 (by omega) hm433
                exact fin3 b8 W35 t0 t1 k0.mod (by omega) c8 k0 k1
            · have ek : k.step m lc i x = (((k.must (((kindOf m x.a).2 && decide ((m.tables.length : Int) > 0)) && (x.b == 0))).take 127).2.takes (kindOf m x.a).1.ins).gives (kindOf m x.a).1.outs := by unfold Wk.step; rw [if_neg hnp, if_neg hop, if_neg hop2, if_neg e26, if_neg e27, if_neg e16, if_pos e17]
              rw [ek]
              have sgl := kindOf_len hT x.a
              intro J4 hJ4
              have fin4 : ∀ (b8 : Nat) (W36 : World) (t0 t1 : Sl), Mod NoB W4 W36 → W4.heap.size ≤ b8 → W36.heap[b8]? = some (.cells #[t0.v, t1.v] 37 (0, 0)) → Nint W4 W36 t0 (kindOf m x.a).1.ins → Nint W4 W36 t1 (kindOf m x.a).1.outs → J4 ⟨b8, 0, none⟩ (kindOf m x.a).2 W36 := by
                intro b8 W36 t0 t1 hm36 hb8 c8 nt0 nt1
                refine hJ4 _ _ _ ?_
                have n8 : ¬ F b8 := h4.new hb8
                have hF4 : ∀ b, FX F X b → b < W4.heap.size := fun b y => y.elim (fun z => by have := hFW b z; have := m04.size; omega) (fun z => by have := hX b z; have := m04.size; omega)
                have r0 := nt0.rd hF4
                have r1 := nt1.rd hF4
                have l8 := heap_lt c8
                have h36 := h4.mod0 hm36
                have c336 := hm36.heap c3 (fun h => h)
                obtain ⟨wb, sl, ss, sb, bs, rfl, g36⟩ := h36
                have htbl := g36.mr.tables.1
                refine ⟨_, fun _ => rfl, S.tables, fun _ => g36.modc 3 _ rfl, x.b, fun _ => cc _ c336 2 _ rfl, ?_⟩
                rw [htbl]
                refine WalkPost.go ent_valid_walker_must (must_spec' g36.at _) (m04.trans0 hm36) g04 (fun W37 F37 h37 m3637 g3637 m37 g37 => ⟨rfl, ?_⟩)
                have o37 := hk.must (((kindOf m x.a).2 && decide ((m.tables.length : Int) > 0)) && (x.b == 0))
                refine WalkPost.go ent_valid_walker_take (take_spec h37 o37 hbig (by show k.stack.length ≤ big; omega) 127) m37 g37 (fun W38 F38 h38 m3738 g3738 m38 g38 => ⟨_, rfl, t0, by rw [add_mk]; exact cell_of_heap (m3738.heap (m3637.heap c8 n8) (g3637.keep l8 n8)) rfl, ?_⟩)
                have n837 := g3637.keep l8 n8
                have l837 : b8 < W37.heap.size := Nat.lt_of_lt_of_le l8 m3637.size
                have r038 := Ints.mono (Ints.mono r0 (offS_step m3637 g3637)) (offS_step m3738 g3738)
                have r138 := Ints.mono (Ints.mono r1 (offS_step m3637 g3637)) (offS_step m3738 g3738)
                have s38 := Wk.take_len (k.must (((kindOf m x.a).2 && decide ((m.tables.length : Int) > 0)) && (x.b == 0))) 127
                have hms : (k.must (((kindOf m x.a).2 && decide ((m.tables.length : Int) > 0)) && (x.b == 0))).stack.length = k.stack.length := rfl
                have b38 := Wk.take_blocks (k.must (((kindOf m x.a).2 && decide ((m.tables.length : Int) > 0)) && (x.b == 0))) 127
                have hmb : (k.must (((kindOf m x.a).2 && decide ((m.tables.length : Int) > 0)) && (x.b == 0))).blocks = k.blocks := rfl
                have htl := Wk.takes_len ((k.must (((kindOf m x.a).2 && decide ((m.tables.length : Int) > 0)) && (x.b == 0))).take 127).2 (kindOf m x.a).1.ins
                refine WalkPost.go ent_valid_walker_takes (takes_spec h38 (o37.take _) (by rw [b38, hmb]; exact hbig) (by omega) r038 (by unfold big; omega)) m38 g38 (fun W39 F39 h39 m3839 g3839 m39 g39 => ⟨rfl, t1, by rw [add_mk]; exact cell_of_heap (m3839.heap (m3738.heap (m3637.heap c8 n8) n837) (g3738.keep l837 n837)) rfl, ?_⟩)
                exact WalkPost.go ent_valid_walker_gives (gives_spec h39 (offS_sub _ _) (Ints.mono r138 (offS_step m3839 g3839)) (by omega)) m39 g39 (fun W28 F28 h28 _ _ m28 g28 => ⟨rfl, rfl, F28, h28, m28, g28⟩)
              refine Dw.mk fun W41 hm41 hh41 => ?_
              obtain ⟨wb, sl, ss, sb, bs, rfl, g4⟩ := h4
              have g41 := g4.mod0 hm41
              have c41 := hm41.heap c3 (fun h => h)
              refine ⟨fun w => WalkIn w F X S m lc wb sl ss sb bs k ∧ w.heap[b3]? = some (.cells #[.int .i64 x.op, .int .i64 x.a, .int .i64 x.b, .int .u64 x.lo, .int .u64 x.hi, sx.v] 40 (0, 0)), ⟨g41, c41⟩, _, rfl, _, fun w hw => hw.1.modc 0 _ rfl, _, fun w hw => hw.1.modc 1 _ rfl, _, fun w hw => hw.1.modc 2 _ rfl, _, fun w hw => hw.1.modc 3 _ rfl, _, fun w hw => hw.1.modc 4 _ rfl, _, fun w hw => hw.1.modc 5 _ rfl, _, fun w hw => hw.1.modc 6 _ rfl, _, fun w hw => hw.1.modc 7 _ rfl, _, fun w hw => hw.1.modc 8 _ rfl, _, fun w hw => hw.1.modc 9 _ rfl, _, fun w hw => hw.1.modc 10 _ rfl, x.a, fun w hw => cc _ hw.2 1 _ rfl, ?_, ?_⟩
              · refine CallV.mk ent_valid_kind (kind_spec (offS_sub W41 _) g41.mr x.a g41.mr.tlen) ?_
                rintro e W42 ⟨t0, t1, rfl, nt0, nt1, hd⟩
                refine ⟨_, rfl, t0, t1, _, rfl, ?_⟩
                refine Na.mk fun b8 W43 hb8 hm43 hz43 hc43 => ?_
                have lt8 := heap_lt hc43
                have hm4143 := nt0.mod.trans0 hm43
                refine ⟨⟨g41.mod0 hm4143, hm4143.heap c41 (fun h => h)⟩, ?_⟩
                refine stC_at (b := b8) (o := 0) rfl hc43 (by simp) (by simp [Value.oneCell', Sl.v]) (fun W44 c8 m44 sz44 => ?_)
                rw [setL_all (by simp)] at c8
                have hm4244 : Mod NoB W42 W44 := hm43.trans m44 (fun i hi e => by omega)
                have z41 := hm41.size
                have z42 := nt0.mod.size
                have nt0' := nt0.mod0 hm4244
                have nt1' := nt1.mod0 hm4244
                exact fin4 b8 W44 t0 t1 ((hm41.trans0 nt0.mod).trans0 hm4244) (by omega) c8 ⟨nt0'.own, hm41.trans0 nt0'.mod, fun b hb => by have := nt0'.fresh b hb; omega⟩ ⟨nt1'.own, hm41.trans0 nt1'.mod, fun b hb => by have := nt1'.fresh b hb; omega⟩
              · refine Na.mk fun b8 W45 hb8 hm45 hz45 hc45 => ?_
                have lt8 := heap_lt hc45
                have g45 := g41.mod0 hm45
                refine ⟨⟨g45, hm45.heap c41 (fun h => h)⟩, ?_⟩
                refine CallV.mk ent_valid_kind (kind_spec (offS_sub W45 _) g45.mr x.a g45.mr.tlen) ?_
                rintro e W46 ⟨t0, t1, rfl, nt0, nt1, hd⟩
                refine ⟨_, rfl, t0, t1, _, rfl, ?_⟩
                refine stC_at (b := b8) (o := 0) rfl (nt0.mod.heap hc45 (fun h => h)) (by simp) (by simp [Value.oneCell', Sl.v]) (fun W47 c8 m47 sz47 => ?_)
                rw [setL_all (by simp)] at c8
                have z41 := hm41.size
                have hm445 := hm41.trans0 hm45
                have k0 := nint_store (W0 := W4) nt0 m47 lt8 (by omega) hm445
                have k1 := nint_store (W0 := W4) nt1 m47 lt8 (by omega) hm445
                exact fin4 b8 W47 t0 t1 k0.mod (by omega) c8 k0 k1
            · have ek : k.step m lc i x = k.jump m lc x := by unfold Wk.step; rw [if_neg hnp, if_neg hop, if_neg hop2, if_neg e26, if_neg e27, if_neg e16, if_neg e17]
              rw [ek]
              refine ⟨_, cc _ c3 0 _ rfl, _, cc _ c3 1 _ rfl, _, cc _ c3 2 _ rfl, _, cc _ c3 3 _ rfl, _, cc _ c3 4 _ rfl, sx, cc _ c3 5 _ rfl, ?_⟩
              exact WalkPost.go ent_valid_walker_jump (jump_spec h4 (fun b y => Nat.lt_of_lt_of_le (hX b y) m04.size) hk ht x sx hx4 hb (by omega) (fun h0 h15 => hpos hp h0 h15 hop hop2 e26 e27 e16 e17) hso.ls) m04 g04 (fun W5 F5 h5 _ _ m5 g5 => ⟨rfl, rfl, F5, h5, m5, g5⟩)
        refine Br.eq (fun e5 => fin2 _ ?_) (fun e5 => fin2 _ ?_)
        · rw [e5]; rfl
        · by_cases h11 : x.op = 11
          · rw [h11]; rfl
          · rw [decide_eq_false (by omega)]; simpa using h11
    refine Br.eq (fun e2 => fin _ ?_) (fun e2 => Br.eq (fun e3 => fin _ ?_) (fun e3 => fin _ ?_))
    · rw [e2]; rfl
    · rw [e3]; rfl
    · by_cases h4' : x.op = 4
      · rw [h4']; rfl
      · rw [decide_eq_false (by omega)]; simpa using h4'
end
end Go.Proofs.YtacjnpahlbibhaaDoor
end

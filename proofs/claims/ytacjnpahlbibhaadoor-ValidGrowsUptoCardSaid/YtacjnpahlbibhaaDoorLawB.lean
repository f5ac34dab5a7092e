import Derived.Test.YtacjnpahlbibhaaDoorRefD
section
/- Contracts: the law's body, awake. -/
set_option linter.unusedVariables false
set_option linter.unusedSimpArgs false
set_option maxRecDepth 100000
namespace Go.Proofs.YtacjnpahlbibhaaDoor
open Go Go.RowKit

/-- An instruction without a row of labels. -/
def insC (x : Instr) : List Value := [.int .i64 x.op, .int .i64 x.a, .int .i64 x.b, .int .u64 x.lo, .int .u64 x.hi, .slice none 0 0]
theorem insC_len (x : Instr) : (insC x).length = 6 := rfl
theorem insC_one (x : Instr) : ∀ u ∈ insC x, u.oneCell' = true := by
  intro u hu; simp [insC] at hu
  rcases hu with rfl | rfl | rfl | rfl | rfl | rfl <;> rfl
def InsBare (x : Instr) : Prop := x.l = [] ∧ (-9223372036854775808 ≤ x.a ∧ x.a < 9223372036854775808)
def InsN (r : Rd) (q : Addr) (x : Instr) : Prop := ∀ j v, (insC x)[j]? = some v → r (q.add j) = some v
theorem InsN.instr {r : Rd} {q : Addr} {x : Instr} (h : InsN r q x) (hb : InsBare x) : InstrR r q x :=
  ⟨h 0 _ rfl, h 1 _ rfl, h 2 _ rfl, h 3 _ rfl, h 4 _ rfl, ⟨none, 0, 0⟩, h 5 _ rfl, by rw [hb.1]; exact SlOf.nil _ _, hb.2⟩
theorem one_ins {W : World} {b : Nat} {x : Instr} {e : TypeId} (h : W.heap[b]? = some (.cells (insC x).toArray e (0, 0))) : SlOf 6 InsN W.cell? ⟨some ⟨b, 0, none⟩, 1, 1⟩ [x] := by
  refine ⟨rfl, fun i y hy => ?_⟩
  cases i with
  | zero =>
    simp at hy; subst hy
    refine ⟨_, rfl, fun j v hv => ?_⟩
    rw [add_add, add_mk]
    refine cell_of_heap h ?_
    rw [show ∀ (l : List Value) (i : Nat), l.toArray[i]? = l[i]? from fun l i => by simp]
    simpa using hv
  | succ i => simp at hy
abbrev endI : Instr := ⟨11, 0, 0, 0, 0, []⟩
def bodyM (outs : List Int) (code : List Instr) : Module := ⟨[⟨[], outs⟩], [], [0], [], [], [], [], -1, [], [⟨[], code ++ [endI]⟩], []⟩
theorem empty_own {W : World} {b : Nat} {e : TypeId} {sz : Nat} (h : W.heap[b]? = some (.cells #[] e (0, 0))) : Own W e sz ⟨some ⟨b, 0, none⟩, 0, 0⟩ [] :=
  ⟨by simp, .inr ⟨b, _, _, rfl, h, .inl rfl, Nat.le_refl _, Nat.zero_le _, by simp, by simp⟩⟩
theorem body_spec {W : World} {s0 s1 : Sl} {outs : List Int} {code : List Instr} (h0 : Ints W.cell? s0 outs) (h1 : SlOf 6 InsN W.cell? s1 code) (hb : ∀ x ∈ code, InsBare x) (hl : code.length ≤ 1000) (ho : outs.length ≤ 1000) :
    Calls Tryd.prog f_plaitlaw15_body #[s0.v, s1.v] W fun e W' => ∃ S : MSl, e = .returned (ModV S (bodyM outs code)) ∧ ModR W'.cell? S (bodyM outs code) ∧ Mod NoB W W' := by
  refine of_plaitlaw15_body _ _ _ _ ?_
  unfold V_plaitlaw15_body
  refine Na.mk fun b4 W1 hb4 hm1 hz1 hc1 => ?_
  refine Na.mk fun b7 W2 hb7 hm2 hz2 hc2 => ?_
  refine Na.mk fun b8 W3 hb8 hm3 hz3 hc3 => ?_
  refine Na.mk fun b9 W4 hb9 hm4 hz4 hc4 => ?_
  have hm04 := ((hm1.trans0 hm2).trans0 hm3).trans0 hm4
  have hsrc := flat_src (P := Tryd.prog) (by omega) insC_len insC_one ((Sub.self W).mod0 hm04) (fun q x (h : InsN W.cell? q x) => h) h1 (tx := ty_sl_Instr) tyf_sl_Instr.und
  refine tyf_sl_Instr.append rfl (empty_own (sz := 6) hc4) hsrc (by show (0 + code.length) * 64 ≤ _; omega) (by show 0 + code.length ≤ maxLen; unfold maxLen; omega) (fun s11 W5 ho5 hl5 m5 g5 => ⟨s11, rfl, ?_⟩)
  have hm45 : Mod NoB W3 W5 := hm4.trans m5 (fun i hi e => by obtain ⟨q, hq, e⟩ := e; cases hq; simp only at e; omega)
  refine Na.mk fun b13 W6 hb13 hm6 hz6 hc6 => ?_
  have hsrc2 := flat_src (P := Tryd.prog) (by omega) insC_len insC_one (Sub.self W6) (fun q x (h : InsN W6.cell? q x) => h) (one_ins (x := endI) hc6) (tx := ty_sl_Instr) tyf_sl_Instr.und
  have hl5' : s11.len = code.length := by have h : s11.len = 0 + code.length := hl5; omega
  refine tyf_sl_Instr.append rfl (ho5.mod0 hm6) hsrc2 (by rw [hl5']; show (code.length + 1) * 64 ≤ _; omega) (by rw [hl5']; show code.length + 1 ≤ maxLen; unfold maxLen; omega) (fun s14 W7 ho7 hl7 m7 g7 => ⟨s14, rfl, ?_⟩)
  have h11 : ∀ b, s11.isB b → W3.heap.size ≤ b := fun b x => (g5 b x).elim (fun y => by obtain ⟨q, hq, e⟩ := y; cases hq; simp only at e; omega) (fun y => by have := hm4.size; omega)
  have hm37 : Mod NoB W3 W7 := (hm45.trans0 hm6).trans m7 (fun i hi e => by have := h11 i e; omega)
  have hcode : [].append (code.flatMap insC) ++ [endI].flatMap insC = (code ++ [endI]).flatMap insC := by
    rw [List.flatMap_append]; rfl
  have ho7' : Own W7 ty_Instr 6 s14 ((code ++ [endI]).flatMap insC) := by rw [← hcode]; exact ho7
  refine Na.mk fun b16 W8 hb16 hm8 hz8 hc8 => ?_
  have hm38 := hm37.trans0 hm8
  have hm18 := (hm2.trans0 hm3).trans0 hm38
  have lt4 := heap_lt hc1
  refine stC_at (b := b4) (o := 0) rfl (hm18.heap hc1 (fun h => h)) (by simp) (by simp [Value.oneCell', Sl.v]) (fun W9 c4 m9 z9 => ?_)
  rw [setL_all (by simp)] at c4
  have h14 : ∀ b, s14.isB b → W3.heap.size ≤ b := fun b x => (g7 b x).elim (h11 b) (fun y => by have := (hm45.trans0 hm6).size; omega)
  have hm28 : Mod NoB W2 W8 := hm3.trans0 hm38
  have n4 : ∀ {b : Nat}, b ≠ b4 → ∀ {o : Obj}, W8.heap[b]? = some o → W9.heap[b]? = some o := fun hne _ ho => m9.heap ho (fun e => hne e)
  have c7 := n4 (b := b7) (by omega) (hm28.heap hc2 (fun h => h))
  have c8 := n4 (b := b8) (by omega) (hm38.heap hc3 (fun h => h))
  have c16 := n4 (b := b16) (by have := hm18.size; have := hm37.size; omega) hc8
  have hm09 : Mod NoB W W9 := (hm1.trans0 hm18).trans m9 (fun i hi e => by omega)
  have ho9 : Own W9 ty_Instr 6 s14 ((code ++ [endI]).flatMap insC) := (ho7'.mod0 hm8).mod m9 (fun b hb e => by have := h14 b hb; omega)
  refine ⟨⟨some ⟨b7, 0, none⟩, 1, 1⟩, cell_of_heap c4 rfl, ⟨none, 0, 0⟩, cell_of_heap c4 rfl, ⟨some ⟨b8, 0, none⟩, 1, 1⟩, cell_of_heap c4 rfl, ⟨none, 0, 0⟩, cell_of_heap c4 rfl, ⟨none, 0, 0⟩, cell_of_heap c4 rfl, ⟨none, 0, 0⟩, cell_of_heap c4 rfl, ⟨none, 0, 0⟩, cell_of_heap c4 rfl, -1, cell_of_heap c4 rfl, ⟨none, 0, 0⟩, cell_of_heap c4 rfl, ⟨some ⟨b16, 0, none⟩, 1, 1⟩, cell_of_heap c4 rfl, ⟨none, 0, 0⟩, cell_of_heap c4 rfl, ?_⟩
  refine ⟨⟨⟨some ⟨b7, 0, none⟩, 1, 1⟩, ⟨none, 0, 0⟩, ⟨some ⟨b8, 0, none⟩, 1, 1⟩, ⟨none, 0, 0⟩, ⟨none, 0, 0⟩, ⟨none, 0, 0⟩, ⟨none, 0, 0⟩, ⟨none, 0, 0⟩, ⟨some ⟨b16, 0, none⟩, 1, 1⟩, ⟨none, 0, 0⟩⟩, rfl, ?_, hm09⟩
  exact {
    types := by
      refine ⟨rfl, fun i y hy => ⟨_, rfl, ?_⟩⟩
      match i, hy with
      | 0, hy =>
        have hy : (⟨[], outs⟩ : Sig) = y := by simpa [bodyM] using hy
        subst hy
        refine ⟨⟨none, 0, 0⟩, s0, ?_, ?_, SlOf.nil _ _, Ints.mono h0 (fun p v hp => hm09.cell hp (fun h => h)), by simp, by show outs.length ≤ _; omega⟩
        · rw [add_add, add_mk]; exact cell_of_heap c7 rfl
        · rw [add_add, add_mk]; exact cell_of_heap c7 rfl
      | i + 1, hy => simp [bodyM] at hy
    imports := SlOf.nil _ _
    funcs := by
      refine ⟨rfl, fun i y hy => ⟨_, rfl, ?_⟩⟩
      match i, hy with
      | 0, hy =>
        have hy : (0 : Int) = y := by simpa [bodyM] using hy
        subst hy
        show W9.cell? _ = _
        rw [add_mk]; exact cell_of_heap c8 rfl
      | i + 1, hy => simp [bodyM] at hy
    tables := SlOf.nil _ _
    mems := SlOf.nil _ _
    globals := SlOf.nil _ _
    exports := SlOf.nil _ _
    elems := SlOf.nil _ _
    codes := by
      refine ⟨rfl, fun i y hy => ⟨_, rfl, ?_⟩⟩
      match i, hy with
      | 0, hy =>
        have hy : (⟨[], code ++ [endI]⟩ : Code) = y := by simpa [bodyM] using hy
        subst hy
        refine ⟨⟨none, 0, 0⟩, s14, ?_, ?_, SlOf.nil _ _, ?_⟩
        · rw [add_add, add_mk]; exact cell_of_heap c16 rfl
        · rw [add_add, add_mk]; exact cell_of_heap c16 rfl
        · refine ho9.read (by omega) insC_len (fun q x hx h => InsN.instr (r := W9.cell?) h ?_)
          rcases List.mem_append.1 hx with hx | hx
          · exact hb x hx
          · simp at hx; subst hx; exact ⟨rfl, by decide⟩
      | i + 1, hy => simp [bodyM] at hy
    datas := SlOf.nil _ _ }
def oneM : Module := bodyM [127] [⟨65, 0, 0, 1, 0, []⟩]
def twoM : Module := bodyM [127] []
def noM : Module := ⟨[], [], [], [], [], [], [], 0, [], [], []⟩
theorem one_marks : marksM oneM 0 = ([⟨true, 0, 0⟩, ⟨true, 1, 0⟩], 0) := by decide +kernel
theorem one_check : checkM oneM = 0 := by decide +kernel
theorem one_sig : sigOf oneM 0 = (⟨[], [127]⟩, true) := by decide +kernel
theorem two_check : checkM twoM = 12 := by decide +kernel
theorem no_check : checkM noM = 12 := by decide +kernel
theorem one_room : ModW oneM := ⟨by decide +kernel, by decide +kernel, by decide +kernel, by decide +kernel, by decide +kernel, by decide +kernel, by decide +kernel, by decide +kernel, by decide +kernel, by decide +kernel, by decide +kernel⟩
theorem two_room : ModW twoM := ⟨by decide +kernel, by decide +kernel, by decide +kernel, by decide +kernel, by decide +kernel, by decide +kernel, by decide +kernel, by decide +kernel, by decide +kernel, by decide +kernel, by decide +kernel⟩
theorem no_room : ModW noM := ⟨by decide +kernel, by decide +kernel, by decide +kernel, by decide +kernel, by decide +kernel, by decide +kernel, by decide +kernel, by decide +kernel, by decide +kernel, by decide +kernel, by decide +kernel⟩
theorem one_small : Small oneM := by unfold Small; decide +kernel
theorem two_small : Small twoM := by unfold Small; decide +kernel
theorem no_small : Small noM := by unfold Small; decide +kernel
end Go.Proofs.YtacjnpahlbibhaaDoor
end
section
/- Contracts: the law's awake. -/
set_option linter.unusedVariables false
set_option linter.unusedSimpArgs false
set_option maxRecDepth 100000
namespace Go.Proofs.YtacjnpahlbibhaaDoor
open Go Go.RowKit

theorem marks_read {W : World} {s : Sl} {l : List Mark} (h : Own W ty_Mark 3 s (l.flatMap markC)) : SlOf 3 MarkR W.cell? s l :=
  h.read (by omega) markC_len (fun q x _ h => ⟨h 0 _ rfl, h 1 _ rfl, h 2 _ rfl⟩)
theorem eql_run {t : TypeId} {x y : Operand} {xs ys : Array Value} {W : World} {b : Bool} (hm : Tryd.prog.eqGuardType Tryd.prog.depth t = false) (he : (Op.equalIn 10000 t (.agg xs) (.agg ys)).run Tryd.prog W = .ok b W) {K : Value → World → Prop} (hk : K (.bool b) W) :
    RunV Tryd.prog (do eqGuard .eql t x y (.agg xs) (.agg ys); binOp .eql t (.agg xs) (.agg ys)) W K := by
  unfold RunV
  simp only [Sem.run_bind, run_eqGuard_agg W .eql t x y xs ys hm, Result.andThen_ok, run_eql_struct W t xs ys, he]
  exact hk
abbrev nilS : MSl := ⟨⟨none, 0, 0⟩, ⟨none, 0, 0⟩, ⟨none, 0, 0⟩, ⟨none, 0, 0⟩, ⟨none, 0, 0⟩, ⟨none, 0, 0⟩, ⟨none, 0, 0⟩, ⟨none, 0, 0⟩, ⟨none, 0, 0⟩, ⟨none, 0, 0⟩⟩
/-- A module's copy in a block. -/
theorem mod_cells {W : World} {b : Nat} {S : MSl} {m : Module} (h : W.heap[b]? = some (.cells (ModC S m) 32 (0, 0))) {j : Nat} {v : Value} (hv : (ModC S m)[j]? = some v) : W.cell? ((⟨b, 0, none⟩ : Addr).add j) = some v := by
  rw [add_mk]; exact cell_of_heap h (by rw [Nat.zero_add]; exact hv)
theorem ModAt.step {W W' : World} {S : MSl} {m : Module} (h : ModAt W.cell? S m) (hm : Mod NoB W W') : ModAt W'.cell? S m :=
  ⟨h.tabs.mono (fun p v hp => hm.cell hp (fun h => h)), ModR.mono (fun p v hp => hm.cell hp (fun h => h)) h.rd, h.room, h.small⟩
theorem awake_spec {W : World} {r : Rd} (hr : Sub r W) (ht : TabsR r) :
    Calls Tryd.prog f_plaitlaw15_awake #[] W fun e W' => e = .returned (.bool true) ∧ Mod NoB W W' := by
  refine of_plaitlaw15_awake _ _ ?_
  unfold V_plaitlaw15_awake
  refine Na.mk fun b6 W1 hb6 hm1 hz1 hc1 => ?_
  refine Na.mk fun b8 W2 hb8 hm2 hz2 hc2 => ?_
  have hm02 := hm1.trans0 hm2
  refine CallV.mk ent_plaitlaw15_body (body_spec (s0 := ⟨some ⟨b6, 0, none⟩, 1, 1⟩) (s1 := ⟨some ⟨b8, 0, none⟩, 1, 1⟩) (outs := [127]) (code := [⟨65, 0, 0, 1, 0, []⟩]) (one_int (hm2.heap hc1 (fun h => h))) (one_ins (x := ⟨65, 0, 0, 1, 0, []⟩) hc2) (by intro x hx; simp at hx; subst hx; exact ⟨rfl, by decide⟩) (by simp) (by simp)) ?_
  rintro e W3 ⟨S, rfl, hmr, hm3⟩
  have hm03 := hm02.trans0 hm3
  refine ⟨_, rfl, S.types, S.imports, S.funcs, S.tables, S.mems, S.globals, S.exports, oneM.start, S.elems, S.codes, S.datas, rfl, ?_⟩
  have tabs : ∀ {W' : World}, Mod NoB W W' → TabsR W'.cell? := fun hm => ht.mono (fun p v hp => hm.cell (hr p v hp) (fun h => h))
  have A3 : ModAt W3.cell? S oneM := ⟨tabs hm03, hmr, one_room, one_small⟩
  refine Na.mk fun b1 W4 hb1 hm4 hz4 hc4 => ?_
  have lt1 := heap_lt hc4
  refine stC_at (b := b1) (o := 0) rfl hc4 (by simp) (by simp [Value.oneCell', Sl.v]) (fun W5 c1 m5 z5 => ?_)
  rw [setL_all (by simp)] at c1
  have hm35 : Mod NoB W3 W5 := hm4.trans m5 (fun i hi e => by omega)
  have A5 := A3.step hm35
  have hm05 := hm03.trans0 hm35
  replace c1 : W5.heap[b1]? = some (.cells (ModC S oneM) 32 (0, 0)) := c1
  refine ⟨_, mod_cells c1 rfl, _, mod_cells c1 rfl, _, mod_cells c1 rfl, _, mod_cells c1 rfl, _, mod_cells c1 rfl, _, mod_cells c1 rfl, _, mod_cells c1 rfl, _, mod_cells c1 rfl, _, mod_cells c1 rfl, _, mod_cells c1 rfl, _, mod_cells c1 rfl, ?_⟩
  refine CallV.mk ent_valid_Marks (Marks_spec (Sub.self W5) A5 0) ?_
  rw [one_marks]
  rintro e W6 ⟨sm, rfl, hom, hfm, hm6⟩
  have hm06 := hm05.trans0 hm6
  have c16 := hm6.heap c1 (fun h => h)
  refine ⟨_, rfl, sm, 0, rfl, _, mod_cells c16 rfl, _, mod_cells c16 rfl, _, mod_cells c16 rfl, _, mod_cells c16 rfl, _, mod_cells c16 rfl, _, mod_cells c16 rfl, _, mod_cells c16 rfl, _, mod_cells c16 rfl, _, mod_cells c16 rfl, _, mod_cells c16 rfl, _, mod_cells c16 rfl, ?_⟩
  have A6 := A5.step hm6
  refine CallV.mk ent_valid_Sig (Sig_spec (Sub.self W6) A6.rd 0 (by omega) A6.rd.tlen) ?_
  rw [one_sig]
  rintro e W7 ⟨t0, t1, rfl, n0, n1, hd⟩
  refine ⟨_, rfl, t0, t1, true, rfl, ?_⟩
  refine Na.mk fun b4 W8 hb4 hm8 hz8 hc8 => ?_
  have lt4 := heap_lt hc8
  refine stC_at (b := b4) (o := 0) rfl hc8 (by simp) (by simp [Value.oneCell', Sl.v]) (fun W9 c4 m9 z9 => ?_)
  rw [setL_all (by simp)] at c4
  have hm79 : Mod NoB W7 W9 := hm8.trans m9 (fun i hi e => by omega)
  have hm69 := n0.mod.trans0 hm79
  have c19 := hm69.heap c16 (fun h => h)
  have A9 := A6.step hm69
  have hm09 := hm06.trans0 hm69
  refine ⟨_, mod_cells c19 rfl, _, mod_cells c19 rfl, _, mod_cells c19 rfl, _, mod_cells c19 rfl, _, mod_cells c19 rfl, _, mod_cells c19 rfl, _, mod_cells c19 rfl, _, mod_cells c19 rfl, _, mod_cells c19 rfl, _, mod_cells c19 rfl, _, mod_cells c19 rfl, ?_⟩
  refine CallV.mk ent_valid_Check (Check_spec (Sub.self W9) A9) ?_
  rw [one_check]
  rintro e W10 ⟨rfl, hm10⟩
  have hm010 := hm09.trans0 hm10
  refine ⟨_, rfl, 0, rfl, fun _ => ?_, fun h => by simp at h⟩
  refine Na.mk fun b24 W11 hb24 hm11 hz11 hc11 => ?_
  refine CallV.mk ent_plaitlaw15_body (body_spec (s0 := ⟨some ⟨b24, 0, none⟩, 1, 1⟩) (s1 := ⟨none, 0, 0⟩) (outs := [127]) (code := []) (one_int hc11) (SlOf.nil _ _) (by intro x hx; cases hx) (by simp) (by simp)) ?_
  rintro e W12 ⟨S2, rfl, hmr2, hm12⟩
  have hm012 := (hm010.trans0 hm11).trans0 hm12
  refine ⟨_, rfl, S2.types, S2.imports, S2.funcs, S2.tables, S2.mems, S2.globals, S2.exports, twoM.start, S2.elems, S2.codes, S2.datas, rfl, ?_⟩
  have A12 : ModAt W12.cell? S2 twoM := ⟨tabs hm012, hmr2, two_room, two_small⟩
  refine CallV.mk ent_valid_Check (Check_spec (Sub.self W12) A12) ?_
  rw [two_check]
  rintro e W13 ⟨rfl, hm13⟩
  have hm013 := hm012.trans0 hm13
  have hm613 : Mod NoB W6 W13 := ((hm69.trans0 hm10).trans0 hm11).trans0 (hm12.trans0 hm13)
  have hom13 := marks_read (hom.mod0 hm613)
  have hl : sm.len = 2 := hom13.1
  obtain ⟨qm, hqm, d0, d1, d2⟩ := hom13.get (i := 1) (by simp)
  have c413 : W13.heap[b4]? = some (.cells #[t0.v, t1.v] 37 (0, 0)) := ((hm10.trans0 hm11).trans0 (hm12.trans0 hm13)).heap c4 (fun h => h)
  have hl1 : t1.len = 1 := by have := n1.own.1; simpa using this.symm
  refine ⟨_, rfl, 12, rfl, qm, fun _ => ⟨hqm, by omega, by omega⟩, true, fun _ => d0, 1, fun _ => d1, 0, fun _ => d2, fun _ => ?_, fun h => by rw [hl] at h; simp at h⟩
  refine eql_run (by kernel_rfl) (eq_mark _ _ _ _ _ _ _) ?_
  refine ⟨t1, fun _ => cell_of_heap c413 rfl, ?_⟩
  rw [hl1]
  refine ⟨fun _ => ?_, fun h => by simp at h⟩
  have A13 : ModAt W13.cell? nilS noM :=
    ⟨tabs hm013, ⟨SlOf.nil _ _, SlOf.nil _ _, SlOf.nil _ _, SlOf.nil _ _, SlOf.nil _ _, SlOf.nil _ _, SlOf.nil _ _, SlOf.nil _ _, SlOf.nil _ _, SlOf.nil _ _⟩, no_room, no_small⟩
  refine CallV.mk ent_valid_Check (Check_spec (S := nilS) (m := noM) (Sub.self W13) A13) ?_
  rw [no_check]
  rintro e W15 ⟨rfl, hm15⟩
  exact ⟨_, rfl, 12, rfl, rfl, hm013.trans0 hm15⟩
end Go.Proofs.YtacjnpahlbibhaaDoor
end

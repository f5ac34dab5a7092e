import Derived.Test.YtacjnpahlbibhaaDoorWkJ
import Derived.Laws.OwnMore
section
/- Plain laws: what can be encoded; a body's walk. No program in sight. -/
set_option linter.unusedVariables false
set_option linter.unusedSimpArgs false
set_option maxRecDepth 100000
namespace Go.Proofs.YtacjnpahlbibhaaDoor

/-! ### What is known of every opcode -/
def rowGood (r : Row) : Bool :=
  decide ((infoOf r).outs.length ≤ 32) && decide ((infoOf r).ins.length ≤ 1000) && decide (r.form = 8 → 0 ≤ r.limit) &&
  decide ((infoOf r).plain = true → r.hi < 2 ∨ (5 < r.lo ∧ r.hi < 11) ∨ 11 < r.lo) &&
  decide ((infoOf r).plain = false → r.form = 3 ∨ r.form = 4 ∨ r.form = 5 ∨ (r.lo = 0 ∧ r.hi = 0) ∨ (r.lo = 2 ∧ r.hi = 4) ∨ (r.lo = 5 ∧ r.hi = 5) ∨ (r.lo = 11 ∧ r.hi = 11) ∨ (r.lo = 15 ∧ r.hi = 15) ∨ (r.lo = 17 ∧ r.hi = 17) ∨ (r.lo = 26 ∧ r.hi = 27)) &&
  decide ((r.lo ≤ 14 ∧ 14 ≤ r.hi) → r.form = 4)
theorem good_scalars : scalarsT.all rowGood = true := by decide +kernel
theorem good_vectors : vectorsT.all rowGood = true := by decide +kernel
structure OpGood (op : Int) (i : Info) : Prop where
  outs : i.outs.length ≤ 32
  ins : i.ins.length ≤ 1000
  l8 : i.form = 8 → 0 ≤ i.limit
  pl : i.plain = true → op ≠ 2 ∧ op ≠ 3 ∧ op ≠ 4 ∧ op ≠ 5 ∧ op ≠ 11
  np : i.plain = false → op ≠ 0 → op ≠ 15 → ¬ (op = 2 ∨ op = 3 ∨ op = 4) → ¬ (op = 5 ∨ op = 11) → op ≠ 26 → op ≠ 27 → op ≠ 16 → op ≠ 17 → i.form = 3 ∨ i.form = 4 ∨ i.form = 5
  f14 : op = 14 → i.form = 4
theorem ofRows_good {op : Int} : ∀ rows : List Row, rows.all rowGood = true → (ofRows op rows).2 = true → OpGood op (ofRows op rows).1 := by
  intro rows
  induction rows with
  | nil => intro _ h; simp [ofRows] at h
  | cons r rs ih =>
    intro hr h
    rw [List.all_cons, Bool.and_eq_true] at hr
    unfold ofRows at h ⊢
    by_cases hin : op < r.lo ∨ op > r.hi
    · rw [if_pos hin] at h ⊢; exact ih hr.2 h
    · rw [if_neg hin] at h ⊢
      have hg := hr.1
      unfold rowGood at hg
      simp only [Bool.and_eq_true, decide_eq_true_eq] at hg
      obtain ⟨⟨⟨⟨⟨g1, g2⟩, g3⟩, g4⟩, g5⟩, g6⟩ := hg
      exact ⟨g1, g2, g3, fun hp => by have := g4 hp; omega, fun hp h1 h2 h3 h4 h5 h6 h7 h8 => by have := g5 hp; show r.form = 3 ∨ r.form = 4 ∨ r.form = 5; omega, fun h14 => g6 (by omega)⟩
theorem instrOf_good {op : Int} (h : (instrOf op).2 = true) : OpGood op (instrOf op).1 := by
  unfold instrOf at h ⊢
  split at h
  · rename_i hg; rw [if_pos hg]; exact ofRows_good _ good_vectors h
  · rename_i hg; rw [if_neg hg]; exact ofRows_good _ good_scalars h
/-! ### What an encoded instruction meets -/
theorem E.cat_all {l : List E} (h : (E.cat l).ok = true) : ∀ e ∈ l, e.ok = true := by
  induction l with
  | nil => intro e he; cases he
  | cons a r ih =>
    rw [E.cat, E.app_ok, Bool.and_eq_true] at h
    intro e he
    rcases List.mem_cons.1 he with rfl | he
    · exact h.1
    · exact ih h.2 e he
theorem numE_ok {n : Int} (h : (numE n).ok = true) : 0 ≤ n ∧ n < 4294967296 := by
  simpa [numE] using h
theorem instrE_ok {x : Instr} (h : (instrE x).ok = true) : (instrOf x.op).2 = true ∧ restOk x (instrOf x.op).1.form = true ∧ (argE x (instrOf x.op).1.form).ok = true := by
  simp only [instrE] at h
  split at h
  · simp at h
  · rename_i hn
    simp only [Bool.or_eq_true, Bool.not_eq_true', not_or, Bool.not_eq_false] at hn
    rw [E.app_ok, Bool.and_eq_true] at h
    exact ⟨hn.1, hn.2, h.2⟩
theorem stepOk_of {m : Module} {x : Instr} (h : (instrE x).ok = true) (ha : -9223372036854775808 ≤ x.a ∧ x.a < 9223372036854775808) : StepOk m x := by
  obtain ⟨h1, h2, h3⟩ := instrE_ok h
  have g := instrOf_good h1
  have key3 : (instrOf x.op).1.form = 3 ∨ (instrOf x.op).1.form = 5 → 0 ≤ x.a := by
    intro hf
    have e : argE x (instrOf x.op).1.form = numE x.a := by
      unfold argE; rw [if_neg (by omega), if_neg (by omega), if_pos hf]
    rw [e] at h3
    exact (numE_ok h3).1
  have key4 : (instrOf x.op).1.form = 4 → 0 ≤ x.a ∧ ∀ l ∈ x.l, 0 ≤ l := by
    intro hf
    have e : argE x (instrOf x.op).1.form = (E.app ⟨lebU x.l.length, true⟩ (numsE x.l)).app (numE x.a) := by
      unfold argE; rw [if_neg (by omega), if_neg (by omega), if_neg (by omega), if_pos hf]
    rw [e, E.app_ok, E.app_ok, Bool.and_eq_true, Bool.and_eq_true] at h3
    refine ⟨(numE_ok h3.2).1, fun l hl => ?_⟩
    have := E.cat_all (l := x.l.map numE) h3.1.2 (numE l) (List.mem_map.2 ⟨l, hl, rfl⟩)
    exact (numE_ok this).1
  refine ⟨⟨ha.1, by omega⟩, g.l8, ⟨g.ins, by have := g.outs; omega⟩, fun hp a1 a2 a3 a4 a5 a6 a7 a8 => ?_, fun h14 => (key4 (g.f14 h14)).2⟩
  rcases g.np hp a1 a2 a3 a4 a5 a6 a7 a8 with e | e | e
  · exact key3 (.inl e)
  · exact (key4 e).1
  · exact key3 (.inr e)
/-! ### One step of the walk -/
theorem Wk.fields_same (m : Module) (k : Wk) (x : Instr) (f l : Int) : (k.fields m x f l).blocks = k.blocks ∧ (k.fields m x f l).stack = k.stack := by
  unfold Wk.fields
  split
  · exact ⟨rfl, rfl⟩
  · split
    · exact ⟨rfl, rfl⟩
    · split
      · have : ∀ (l : List Int) (k : Wk), (l.foldl (fun k c => k.must (decide (c < 32))) k).blocks = k.blocks ∧ (l.foldl (fun k c => k.must (decide (c < 32))) k).stack = k.stack := by
          intro l
          induction l with
          | nil => intro k; exact ⟨rfl, rfl⟩
          | cons a r ih => intro k; rw [List.foldl_cons]; exact ih _
        exact this _ _
      · exact ⟨rfl, rfl⟩
theorem Wk.Ok.same {k k' : Wk} (h : k.Ok) (e : k'.blocks = k.blocks ∧ k'.stack = k.stack) : k'.Ok := ⟨by rw [e.1]; exact h.ne, by rw [e.1]; exact h.up, by rw [e.1, e.2]; exact h.le⟩
/-- A step that opens and closes nothing. -/
structure Flat (k k' : Wk) (n : Nat) : Prop where
  ok : k'.Ok
  len : k'.blocks.length = k.blocks.length
  ty : k'.Ty
  st : k'.stack.length ≤ k.stack.length + n
theorem Flat.mono {k k' : Wk} {a b : Nat} (h : Flat k k' a) (hab : a ≤ b) : Flat k k' b := ⟨h.ok, h.len, h.ty, Nat.le_trans h.st (by omega)⟩
theorem Flat.refl {k : Wk} (h : k.Ok) (t : k.Ty) : Flat k k 0 := ⟨h, rfl, t, Nat.le_refl _⟩
theorem Flat.trans {a b c : Wk} {n j : Nat} (h : Flat a b n) (g : Flat b c j) : Flat a c (n + j) := ⟨g.ok, g.len.trans h.len, g.ty, by have := g.st; have := h.st; omega⟩
theorem Flat.take {k : Wk} (h : k.Ok) (t : k.Ty) (x : Int) : Flat k (k.take x).2 0 := ⟨h.take x, by rw [Wk.take_blocks], t.of (Wk.take_blocks _ _), Wk.take_len _ _⟩
theorem Flat.takes {k : Wk} (h : k.Ok) (t : k.Ty) (l : List Int) : Flat k (k.takes l) 0 := ⟨h.takes l, by rw [Wk.takes_blocks], t.of (Wk.takes_blocks _ _), Wk.takes_len _ _⟩
theorem Flat.gives {k : Wk} (h : k.Ok) (t : k.Ty) (l : List Int) : Flat k (k.gives l) l.length := ⟨h.gives l, rfl, t, by simp [Wk.gives]⟩
theorem Flat.same {k k' : Wk} (h : k.Ok) (t : k.Ty) (e : k'.blocks = k.blocks ∧ k'.stack = k.stack) : Flat k k' 0 := ⟨h.same e, by rw [e.1], t.of e.1, by rw [e.2]; exact Nat.le_refl _⟩
theorem Wk.Ty.die {k : Wk} (t : k.Ty) : k.die.Ty := by
  unfold Wk.die
  split
  · exact t
  · rename_i b hb
    obtain ⟨pre, hpre⟩ := List.getLast?_eq_some_iff.1 hb
    have hbm : b ∈ k.blocks := by rw [hpre]; simp
    intro c hc
    rcases List.mem_append.1 hc with hc | hc
    · exact t c (List.dropLast_subset _ hc)
    · simp at hc; subst hc; exact t b hbm
theorem Flat.die {k : Wk} (h : k.Ok) (t : k.Ty) : Flat k k.die 0 := ⟨h.die, Wk.die_blen, t.die, Wk.die_len⟩
theorem Flat.varIn {k : Wk} (h : k.Ok) (t : k.Ty) (m : Module) (lc : List Int) (op a : Int) : Flat k (k.varIn m lc op a) 1 := by
  simp only [Wk.varIn]
  have f1 : Flat k (k.must (varOf m lc op a).2) 0 := Flat.same h t ⟨rfl, rfl⟩
  have f2 : Flat k (if op ≠ 32 ∧ op ≠ 35 then ((k.must (varOf m lc op a).2).take (varOf m lc op a).1).2 else k.must (varOf m lc op a).2) 0 := by
    split
    · exact f1.trans (Flat.take f1.ok f1.ty _)
    · exact f1
  split
  · exact f2.trans (Flat.gives f2.ok f2.ty _)
  · exact f2.mono (by omega)
theorem Flat.jump {k : Wk} (h : k.Ok) (t : k.Ty) (m : Module) (lc : List Int) (x : Instr) : Flat k (k.jump m lc x) (32 + 32 * x.l.length) := by
  unfold Wk.jump
  split
  · exact (Flat.die h t).mono (by omega)
  · split
    · have f1 := Flat.same h t (Wk.label_blocks k x.a)
      have f2 := f1.trans (Flat.takes f1.ok f1.ty (k.label x.a).1)
      exact (f2.trans (Flat.die f2.ok f2.ty)).mono (by omega)
    · split
      · have f0 := Flat.take h t 127
        have f1 := f0.trans (Flat.same f0.ok f0.ty (Wk.label_blocks (k.take 127).2 x.a))
        have f2 := f1.trans (Flat.takes f1.ok f1.ty ((k.take 127).2.label x.a).1)
        have hl := Wk.label_len f0.ty x.a
        exact (f2.trans (Flat.gives f2.ok f2.ty ((k.take 127).2.label x.a).1)).mono (by omega)
      · split
        · have f0 := Flat.take h t 127
          have f1 := f0.trans (Flat.same f0.ok f0.ty (Wk.label_blocks (k.take 127).2 x.a))
          obtain ⟨g1, g2, g3⟩ := Wk.tableGo_ok ((k.take 127).2.label x.a).1.length x.l _ f1.ok f1.ty
          have f2 : Flat ((k.take 127).2.label x.a).2 (((k.take 127).2.label x.a).2.tableGo ((k.take 127).2.label x.a).1.length x.l) (32 * x.l.length) := ⟨g1, by rw [g2], f1.ty.of g2, g3⟩
          have f3 := f1.trans f2
          have f4 := f3.trans (Flat.takes f3.ok f3.ty ((k.take 127).2.label x.a).1)
          exact (f4.trans (Flat.die f4.ok f4.ty)).mono (by omega)
        · split
          · have f1 := Flat.takes h t (match k.blocks.head? with | some b => b.outs | none => [])
            exact (f1.trans (Flat.die f1.ok f1.ty)).mono (by omega)
          · exact (Flat.varIn h t m lc x.op x.a).mono (by omega)
/-- What a step does to the blocks, and how much it may give. -/
structure Next (m : Module) (lc : List Int) (k : Wk) (x : Instr) (k' : Wk) (st : List Int) (r : List Int) : Prop where
  ty : k'.Ty
  sl : k'.stack.length ≤ k.stack.length + 32 + 32 * x.l.length
  bl : k'.blocks.length ≤ k.blocks.length + 1
  go : r ≠ [] → k'.Ok ∧ ∃ st', closedGo r st' = true ∧ k'.blocks.length = st'.length + 1
theorem step_next {m : Module} {lc : List Int} {k : Wk} {x : Instr} {i : Info} (hk : k.Ok) (ht : k.Ty) (hT : TyM m) (hg : OpGood x.op i) {st r : List Int} (hn : k.blocks.length = st.length + 1) (hc : closedGo (x.op :: r) st = true) (hok : (k.step m lc i x).bad = false) :
    Next m lc k x (k.step m lc i x) st r := by
  have flat : ∀ {n : Nat}, Flat k (k.step m lc i x) n → n ≤ 32 + 32 * x.l.length → ¬ (x.op = 2 ∨ x.op = 3 ∨ x.op = 4) → x.op ≠ 5 → x.op ≠ 11 → Next m lc k x (k.step m lc i x) st r := by
    intro n f hle h1 h2 h3
    refine ⟨f.ty, by have := f.st; omega, by rw [f.len]; omega, fun hr => ⟨f.ok, st, ?_, by rw [f.len]; exact hn⟩⟩
    rw [closedGo, if_neg h1, if_neg h2, if_neg h3] at hc
    exact hc
  by_cases hp : i.plain = true
  · have hpl := hg.pl hp
    have f1 := Flat.same hk ht (Wk.fields_same m k x i.form i.limit)
    have f2 := f1.trans (Flat.takes f1.ok f1.ty i.ins)
    have f3 := f2.trans (Flat.gives f2.ok f2.ty i.outs)
    have ek : k.step m lc i x = ((k.fields m x i.form i.limit).takes i.ins).gives i.outs := by unfold Wk.step; rw [if_pos hp]
    rw [← ek] at f3
    exact flat f3 (by have := hg.outs; omega) (by omega) hpl.2.2.2.1 hpl.2.2.2.2
  · by_cases hop : x.op = 2 ∨ x.op = 3 ∨ x.op = 4
    · have ek : k.step m lc i x = ((((if x.op = 4 then (k.take 127).2 else k).sig m x.a).2.takes ((if x.op = 4 then (k.take 127).2 else k).sig m x.a).1.ins).open x.op ((if x.op = 4 then (k.take 127).2 else k).sig m x.a).1.ins ((if x.op = 4 then (k.take 127).2 else k).sig m x.a).1.outs).gives ((if x.op = 4 then (k.take 127).2 else k).sig m x.a).1.ins := by
        unfold Wk.step; rw [if_neg hp, if_pos hop]
      rw [ek]
      obtain ⟨k1, hk1⟩ : ∃ k1, k1 = (if x.op = 4 then (k.take 127).2 else k) := ⟨_, rfl⟩
      rw [← hk1]
      have f1 : Flat k k1 0 := by
        rw [hk1]; split
        · exact Flat.take hk ht 127
        · exact Flat.refl hk ht
      have f2 := f1.trans (Flat.same f1.ok f1.ty (sig_wk m k1 x.a))
      have f3 := f2.trans (Flat.takes f2.ok f2.ty (k1.sig m x.a).1.ins)
      have sgl := sig_len hT k1 x.a
      have o4 := f3.ok.open x.op (k1.sig m x.a).1.ins (k1.sig m x.a).1.outs
      have t4 : ((((k1.sig m x.a).2.takes (k1.sig m x.a).1.ins).open x.op (k1.sig m x.a).1.ins (k1.sig m x.a).1.outs)).Ty := by
        intro b hb
        rcases List.mem_append.1 hb with hb | hb
        · exact f3.ty b hb
        · simp at hb; subst hb; exact sgl
      have l4 : ((((k1.sig m x.a).2.takes (k1.sig m x.a).1.ins).open x.op (k1.sig m x.a).1.ins (k1.sig m x.a).1.outs)).blocks.length = k.blocks.length + 1 := by
        simp only [Wk.open, List.length_append, List.length_singleton, f3.len]
      refine ⟨t4, ?_, Nat.le_of_eq l4, fun hr => ⟨o4.gives _, ?_⟩⟩
      · have := f3.st
        simp only [Wk.gives, Wk.open, List.length_append]; omega
      · rw [closedGo, if_pos hop] at hc
        split at hc
        · cases hc
        · exact ⟨_, hc, by show ((((k1.sig m x.a).2.takes (k1.sig m x.a).1.ins).open x.op (k1.sig m x.a).1.ins (k1.sig m x.a).1.outs)).blocks.length = _; rw [l4, hn]; simp⟩
    · by_cases hop2 : x.op = 5 ∨ x.op = 11
      · have ek : k.step m lc i x = k.close x.op := by unfold Wk.step; rw [if_neg hp, if_neg hop, if_pos hop2]
        rw [ek] at hok ⊢
        obtain ⟨b, hlast, hbm, hble⟩ := hk.last
        have htb := ht b hbm
        obtain ⟨k1, hk1⟩ : ∃ k1, k1 = (k.takes b.outs).must (((k.takes b.outs).stack.length : Int) == b.height) := ⟨_, rfl⟩
        have hclose : k.close x.op = if k1.bad then { k1 with blocks := k1.blocks.dropLast ++ [b] } else if x.op = 5 then ((Wk.open { k1 with blocks := k1.blocks.dropLast } 5 b.ins b.outs)).gives b.ins
            else (Wk.must { k1 with blocks := k1.blocks.dropLast } (decide (b.op ≠ 4 ∨ b.ins = b.outs))).gives b.outs := by
          rw [hk1]; simp only [Wk.close, hlast]
        have hnb : ¬ (k1.bad = true) := by
          intro hb
          rw [hclose, if_pos hb] at hok
          have : k1.bad = false := hok
          rw [hb] at this; cases this
        have hk1b : k1.blocks = k.blocks := by rw [hk1]; exact Wk.takes_blocks _ _
        have hk1s : k1.stack.length ≤ k.stack.length := by rw [hk1]; exact Wk.takes_len _ _
        have hheight : k1.stack.length = b.height := by
          have : k1.bad = false := by simpa using hnb
          rw [hk1] at this
          simp only [Wk.must, Bool.or_eq_false_iff, Bool.not_eq_false', beq_iff_eq] at this
          have h2 : k1.stack.length = (k.takes b.outs).stack.length := by rw [hk1]; rfl
          omega
        have hup : k1.blocks.dropLast.Pairwise (fun a b => a.height ≤ b.height) := by
          rw [hk1b]; exact hk.up.sublist (List.dropLast_sublist _)
        have hle : ∀ c ∈ k1.blocks.dropLast, c.height ≤ k1.stack.length := by
          intro c hc
          rw [hk1b] at hc
          rw [hheight]
          exact hk.le_last hlast c (List.dropLast_subset _ hc)
        have hty : ∀ c ∈ k1.blocks.dropLast, c.ins.length ≤ 32 ∧ c.outs.length ≤ 32 := by
          intro c hc
          rw [hk1b] at hc
          exact ht c (List.dropLast_subset _ hc)
        have hdl : k1.blocks.dropLast.length = st.length := by rw [hk1b, List.length_dropLast, hn]; omega
        rw [hclose, if_neg hnb]
        by_cases h5 : x.op = 5
        · rw [if_pos h5]
          refine ⟨?_, ?_, ?_, fun hr => ⟨(Wk.ok_open hup hle 5 b.ins b.outs).gives _, ?_⟩⟩
          · intro c hc
            rcases List.mem_append.1 hc with hc | hc
            · exact hty c hc
            · simp at hc; subst hc; exact htb
          · simp only [Wk.gives, Wk.open, List.length_append]; omega
          · simp only [Wk.gives, Wk.open, List.length_append, List.length_singleton, hdl]; omega
          · rw [closedGo, if_neg hop, if_pos h5] at hc
            split at hc
            · rename_i hl4
              refine ⟨_, hc, ?_⟩
              have hst : st ≠ [] := by intro e; rw [e] at hl4; simp at hl4
              have hpos := List.length_pos_iff.2 hst
              simp only [Wk.gives, Wk.open, List.length_append, List.length_singleton, hdl, List.length_dropLast]; omega
            · cases hc
        · rw [if_neg h5]
          have h11 : x.op = 11 := by omega
          refine ⟨hty, ?_, ?_, fun hr => ?_⟩
          · simp only [Wk.gives, Wk.must, List.length_append]; omega
          · simp only [Wk.gives, Wk.must, hdl]; omega
          · rw [closedGo, if_neg hop, if_neg h5, if_pos h11] at hc
            split at hc
            · cases r with
              | nil => exact absurd rfl hr
              | cons a r => simp at hc
            · rename_i hst
              have hpos := List.length_pos_iff.2 hst
              refine ⟨Wk.Ok.gives (k := Wk.must { k1 with blocks := k1.blocks.dropLast } (decide (b.op ≠ 4 ∨ b.ins = b.outs))) ⟨?_, hup, hle⟩ _, _, hc, ?_⟩
              · show k1.blocks.dropLast ≠ []
                rw [← List.length_pos_iff, hdl]; exact hpos
              · simp only [Wk.gives, Wk.must, hdl, List.length_dropLast]; omega
      · have h5 : x.op ≠ 5 := fun e => hop2 (.inl e)
        have h11 : x.op ≠ 11 := fun e => hop2 (.inr e)
        by_cases e26 : x.op = 26
        · have ek : k.step m lc i x = (k.take 0).2 := by unfold Wk.step; rw [if_neg hp, if_neg hop, if_neg hop2, if_pos e26]
          refine flat (n := 0) ?_ (by omega) hop h5 h11
          rw [ek]; exact Flat.take hk ht 0
        · by_cases e27 : x.op = 27
          · have ek : k.step m lc i x = k.selIn := by unfold Wk.step; rw [if_neg hp, if_neg hop, if_neg hop2, if_neg e26, if_pos e27]
            refine flat (n := 1) ?_ (by omega) hop h5 h11
            rw [ek]
            have f1 := Flat.take hk ht 127
            have f2 := f1.trans (Flat.take f1.ok f1.ty 0)
            have f3 := f2.trans (Flat.take f2.ok f2.ty ((k.take 127).2.take 0).1)
            exact f3.trans (Flat.gives f3.ok f3.ty _)
          · by_cases e16 : x.op = 16
            · have ek : k.step m lc i x = ((k.must (sigOf m x.a).2).takes (sigOf m x.a).1.ins).gives (sigOf m x.a).1.outs := by unfold Wk.step; rw [if_neg hp, if_neg hop, if_neg hop2, if_neg e26, if_neg e27, if_pos e16]
              have sgl := kindOf_len hT (kidx m x.a)
              have f1 : Flat k (k.must (sigOf m x.a).2) 0 := Flat.same hk ht ⟨rfl, rfl⟩
              have f2 := f1.trans (Flat.takes f1.ok f1.ty (sigOf m x.a).1.ins)
              have f3 := f2.trans (Flat.gives f2.ok f2.ty (sigOf m x.a).1.outs)
              rw [← ek] at f3
              have hsl1 : (sigOf m x.a).1.outs.length ≤ 32 := sgl.2
              exact flat f3 (by omega) hop h5 h11
            · by_cases e17 : x.op = 17
              · have ek : k.step m lc i x = (((k.must (((kindOf m x.a).2 && decide ((m.tables.length : Int) > 0)) && (x.b == 0))).take 127).2.takes (kindOf m x.a).1.ins).gives (kindOf m x.a).1.outs := by unfold Wk.step; rw [if_neg hp, if_neg hop, if_neg hop2, if_neg e26, if_neg e27, if_neg e16, if_pos e17]
                have sgl := kindOf_len hT x.a
                have f0 : Flat k (k.must (((kindOf m x.a).2 && decide ((m.tables.length : Int) > 0)) && (x.b == 0))) 0 := Flat.same hk ht ⟨rfl, rfl⟩
                have f1 := f0.trans (Flat.take f0.ok f0.ty 127)
                have f2 := f1.trans (Flat.takes f1.ok f1.ty (kindOf m x.a).1.ins)
                have f3 := f2.trans (Flat.gives f2.ok f2.ty (kindOf m x.a).1.outs)
                rw [← ek] at f3
                exact flat f3 (by have := sgl.2; omega) hop h5 h11
              · have ek : k.step m lc i x = k.jump m lc x := by unfold Wk.step; rw [if_neg hp, if_neg hop, if_neg hop2, if_neg e26, if_neg e27, if_neg e16, if_neg e17]
                refine flat (n := 32 + 32 * x.l.length) ?_ (by omega) hop h5 h11
                rw [ek]; exact Flat.jump hk ht m lc x
/-! ### The walk -/
structure Mark where
  live : Bool
  height : Int
  vecs : Int
deriving DecidableEq
def vecsOf (l : List Int) : Nat := (l.filter (· == 123)).length
def Wk.mark (k : Wk) : Mark :=
  match k.blocks.getLast? with
  | none => ⟨false, 0, 0⟩
  | some b => if b.live && !b.dead then ⟨true, k.stack.length, vecsOf k.stack⟩ else ⟨false, 0, 0⟩
def walkGo (m : Module) (lc : List Int) : Wk → List Instr → Option (List Mark)
  | _, [] => some []
  | k, x :: r => if (k.step m lc (instrOf x.op).1 x).bad then none else (walkGo m lc (k.step m lc (instrOf x.op).1 x) r).map (k.mark :: ·)
def wk0 (outs : List Int) : Wk := Wk.open ⟨[], [], false⟩ 2 [] outs
def typedM (m : Module) (i : Nat) : Option (List Mark) :=
  match m.codes[i]? with
  | none => none
  | some c => walkGo m ((sigOf m (m.imports.length + i)).1.ins ++ c.locals) (wk0 (sigOf m (m.imports.length + i)).1.outs) c.body
end Go.Proofs.YtacjnpahlbibhaaDoor
end
section
/- Contracts: valid.typed. -/
set_option linter.unusedVariables false
set_option linter.unusedSimpArgs false
set_option maxRecDepth 100000
namespace Go.Proofs.YtacjnpahlbibhaaDoor
open Go Go.RowKit

def markC (x : Mark) : List Value := [.bool x.live, .int .i64 x.height, .int .i64 x.vecs]
theorem markC_len (x : Mark) : (markC x).length = 3 := rfl
theorem markC_one (x : Mark) : ∀ u ∈ markC x, u.oneCell' = true := by
  intro u hu; simp [markC] at hu
  rcases hu with rfl | rfl | rfl <;> rfl
def mark0 : Mark := ⟨false, 0, 0⟩
/-- Several cells of an owned slice change. -/
theorem Own.sets {w : World} {e : TypeId} {sz : Nat} {s : Sl} {xs : List Value} (h : Own w e sz s xs) {q : Addr} (hq : s.a = some q) {i : Nat} {vs : List Value} (hi : i + vs.length ≤ xs.length) (hpos : 0 < vs.length) (h1 : ∀ v ∈ vs, v.oneCell' = true) {K : World → Prop}
    (hk : ∀ w', Own w' e sz s (xs.take i ++ vs ++ xs.drop (i + vs.length)) → Mod s.isB w w' → w'.heap.size = w.heap.size → K w') : stC w (q.add i) vs 0 K := by
  rcases h.2 with h' | ⟨g, cur, fr, ha, hh, hfr, hlc, hm, hcs, ht⟩
  · subst h'; cases hq
  · rw [ha] at hq; cases hq
    have hle : s.len * sz ≤ s.cap * sz := Nat.mul_le_mul_right _ hlc
    have hx := h.1
    have hi2 : i + vs.length ≤ cur.size := by omega
    refine stC_fr (b := g) (o := i) hfr (by rw [add_mk, Nat.zero_add]) hh hi2 h1 (fun w' h2 h3 h4 => hk w' ⟨by simp; omega, .inr ⟨g, _, fr, ha, h2, by rw [setL_size]; exact hfr, hlc, hm, by rw [setL_size]; exact hcs, ?_⟩⟩ (h3.mono (fun k _ e => ⟨_, ha, e.symm⟩)) h4)
    apply List.ext_getElem?
    intro j
    rw [List.getElem?_take, Array.getElem?_toList, setL_get _ _ _ _ hi2]
    by_cases hj : j < s.len * sz
    · rw [if_pos hj]
      have hxj : xs[j]? = cur[j]? := by rw [← ht, List.getElem?_take, if_pos hj]; simp
      by_cases hin : i ≤ j ∧ j < i + vs.length
      · rw [if_pos hin, List.getElem?_append_left (by simp; omega), List.getElem?_append_right (by simp; omega)]
        congr 1; simp; omega
      · rw [if_neg hin, ← hxj]
        by_cases hlt : j < i
        · rw [List.append_assoc, List.getElem?_append_left (by simp; omega), List.getElem?_take, if_pos hlt]
        · rw [List.getElem?_append_right (by simp; omega), List.getElem?_drop]
          congr 1; simp; omega
    · rw [if_neg hj, List.getElem?_eq_none (by simp; omega)]
theorem made_marks (n : Nat) : (madeCells (Value.agg #[.bool false, .int .i64 0, .int .i64 0]).cells (n * 3)).toList = (List.replicate n mark0).flatMap markC := by
  apply List.ext_getElem?
  intro j
  by_cases hj : j < n * 3
  · have hd : j / 3 < n := by omega
    have h1 := flatMap_at (f := markC) (n := 3) markC_len (xs := List.replicate n mark0) (i := j / 3) (j := j % 3) (x := mark0) (by rw [List.getElem?_replicate, if_pos hd]) (by omega)
    rw [show j / 3 * 3 + j % 3 = j from by omega] at h1
    rw [h1, Array.getElem?_toList]
    have h3 : j % 3 = 0 ∨ j % 3 = 1 ∨ j % 3 = 2 := by omega
    unfold madeCells
    rw [Array.getElem?_map, Array.getElem?_range, if_pos hj]
    have hsz : (Value.agg #[.bool false, .int .i64 0, .int .i64 0]).cells.size = 3 := rfl
    simp only [Option.map_some, hsz]
    rcases h3 with h | h | h <;> rw [h] <;> rfl
  · have hl : ((List.replicate n mark0).flatMap markC).length = n * 3 := by rw [flat_len markC_len]; simp
    have hl2 : (madeCells (Value.agg #[.bool false, .int .i64 0, .int .i64 0]).cells (n * 3)).toList.length = n * 3 := by unfold madeCells; simp
    rw [List.getElem?_eq_none (by omega), List.getElem?_eq_none (by omega)]
theorem make_marks {W : World} {n : Nat} (hn : n ≤ big) {K : Value → World → Prop}
    (hk : ∀ (s : Sl) W', Own W' ty_Mark 3 s ((List.replicate n mark0).flatMap markC) → Mod NoB W W' → (∀ b, s.isB b → W.heap.size ≤ b) → s.len = n → (∃ q, s.a = some q) → K s.v W') : RunV Tryd.prog (Instr.makeSlice ty_sl_Mark (.int .i64 (n : Int)) (.int .i64 (n : Int))) W K := by
  obtain ⟨i, hi, hz, hsz, hby⟩ := tyf_sl_Mark.info
  unfold big at hn
  have hrun := run_make (P := Tryd.prog) W ty_sl_Mark ty_Mark i _ tyf_sl_Mark.und hi hz .i64 .i64 n n (by omega) (Int.le_refl _) (by rw [hby]; omega) (by omega)
  unfold RunV
  rw [hrun]
  have hml := made_marks n
  rw [hsz, Int.toNat_natCast]
  refine hk ⟨some ⟨W.heap.size, 0, none⟩, n, n⟩ _ ⟨by rw [flat_len markC_len]; simp, .inr ⟨W.heap.size, _, (0, 0), rfl, (by show (W.heap.push _)[W.heap.size]? = _; simp; rfl), .inl rfl, Nat.le_refl _, by unfold maxLen; show n ≤ 9223372036854775807; omega, by unfold madeCells; simp, ?_⟩⟩ (Mod.alloc _ _ _) ?_ rfl ⟨_, rfl⟩
  · rw [hml]
    exact List.take_of_length_le (by rw [flat_len markC_len]; simp)
  · rintro b ⟨q, hq, rfl⟩; cases hq; exact Nat.le_refl _
def TypedPost (W : World) (o : Option (List Mark)) : Ending → World → Prop := fun e W' => Mod NoB W W' ∧
  match o with
  | none => e = .returned (.tuple #[(⟨none, 0, 0⟩ : Sl).v, .bool false])
  | some l => ∃ s : Sl, e = .returned (.tuple #[s.v, .bool true]) ∧ Own W' ty_Mark 3 s (l.flatMap markC) ∧ (∀ b, s.isB b → W.heap.size ≤ b)
end Go.Proofs.YtacjnpahlbibhaaDoor
end
section
/- Contracts: valid.typed. -/
set_option linter.unusedVariables false
set_option linter.unusedSimpArgs false
set_option maxRecDepth 100000
namespace Go.Proofs.YtacjnpahlbibhaaDoor
open Go Go.RowKit

structure CodeOk (c : Code) : Prop where
  closed : closedOk c.body = true
  ins : ∀ x ∈ c.body, (instrE x).ok = true
  w : codeW c.body ≤ 1073741824
  l : c.locals.length ≤ 1000
theorem rd_old {W W' : World} {r : Rd} {F : Nat → Prop} (hr : Sub r W) (hm : Mod NoB W W') (hF : ∀ b, F b → W.heap.size ≤ b) : Le r (offS W' F) :=
  fun p v hp => offS_of (hm.cell (hr p v hp) (fun h => h)) (fun x => by have := hF _ x; have := lt_of_cell (hr p v hp); omega)
theorem vecs_take (l : List Int) {j : Nat} (h : j < l.length) : vecsOf (l.take (j + 1)) = vecsOf (l.take j) + (if l[j] = 123 then 1 else 0) := by
  unfold vecsOf
  rw [List.take_succ_eq_append_getElem h, List.filter_append, List.length_append]
  by_cases he : l[j] = 123 <;> simp [he]
set_option maxHeartbeats 400000 in
theorem typed_spec {W : World} {r : Rd} (hr : Sub r W) {S : MSl} {m : Module} (hm : ModR r S m) (hw : ModW m) (hT : TyM m) {i : Nat} (hi : i < m.codes.length) (hc : CodeOk m.codes[i]) :
    Calls Tryd.prog f_valid_typed #[ModV S m, .int .i64 (i : Int)] W (TypedPost W (typedM m i)) := by
  have wi := hw.imports
  have wc := hw.codes
  obtain ⟨c, hcd⟩ : ∃ c, c = m.codes[i] := ⟨_, rfl⟩
  obtain ⟨sg, hsg⟩ : ∃ sg, sg = sigOf m (m.imports.length + i) := ⟨_, rfl⟩
  have htyp : typedM m i = walkGo m (sg.1.ins ++ c.locals) (wk0 sg.1.outs) c.body := by
    unfold typedM; rw [List.getElem?_eq_getElem hi, ← hcd, ← hsg]
  rw [htyp]
  rw [← hcd] at hc
  have hsgl : sg.1.ins.length ≤ 32 ∧ sg.1.outs.length ≤ 32 := by rw [hsg]; exact kindOf_len hT _
  have hcw := codeW_len c.body
  have hcl := hc.w
  have hll := hc.l
  obtain ⟨qc, hqc, s0, s1, cs0, cs1, il, ib⟩ := hm.codes.get hi
  rw [← hcd] at il ib
  refine of_valid_typed _ _ _ _ _ _ _ _ _ _ _ _ _ _ ?_
  unfold V_valid_typed
  refine Na.mk fun b2 W1 hb2 hm1 hz1 hc1 => ?_
  have lt2 := heap_lt hc1
  refine ⟨S.types, cell_of_heap hc1 rfl, S.imports, cell_of_heap hc1 rfl, S.funcs, cell_of_heap hc1 rfl, S.tables, cell_of_heap hc1 rfl, S.mems, cell_of_heap hc1 rfl, S.globals, cell_of_heap hc1 rfl, S.exports, cell_of_heap hc1 rfl, m.start, cell_of_heap hc1 rfl, S.elems, cell_of_heap hc1 rfl, S.codes, cell_of_heap hc1 rfl, S.datas, cell_of_heap hc1 rfl, S.imports, cell_of_heap hc1 rfl, ?_⟩
  have wimp : IntKind.wrap .i64 ((S.imports.len : Int) + (i : Int)) = (m.imports.length : Int) + (i : Int) := by rw [hm.imports.1, wrap_id (by omega) (by omega)]
  rw [wimp]
  refine CallV.mk ent_valid_Sig (Sig_spec (hr.mod0 hm1) hm _ (by omega) hm.tlen) ?_
  rw [← hsg]
  rintro e W2 ⟨t0, t1, rfl, n0, n1, hd⟩
  refine ⟨_, rfl, t0, t1, _, rfl, ?_⟩
  refine Na.mk fun b6 W3 hb6 hm3 hz3 hc3 => ?_
  have lt6 := heap_lt hc3
  refine stC_at (b := b6) (o := 0) rfl hc3 (by simp) (by simp [Value.oneCell', Sl.v]) (fun W4 c6 m4 sz4 => ?_)
  rw [setL_all (by simp)] at c6
  have hm24 : Mod NoB W2 W4 := hm3.trans m4 (fun i hi e => by omega)
  refine Dw.mk fun W5 hm5 hh5 => ?_
  have hm25 := hm24.trans0 hm5
  have hm15 := n0.mod.trans0 hm25
  have hm05 := hm1.trans0 hm15
  have d2 := hm15.heap hc1 (fun h => h)
  have d6 := hm5.heap c6 (fun h => h)
  have ndx : (0 : Int) ≤ (i : Int) ∧ (i : Int) < (S.codes.len : Int) := by rw [hm.codes.1]; omega
  refine ⟨fun w => w.heap[b2]? = some (.cells #[S.types.v, S.imports.v, S.funcs.v, S.tables.v, S.mems.v, S.globals.v, S.exports.v, .int .i64 m.start, S.elems.v, S.codes.v, S.datas.v] 32 (0, 0)) ∧ w.heap[b6]? = some (.cells #[t0.v, t1.v] 37 (0, 0)) ∧ Sub r w, ⟨d2, d6, hr.mod0 hm05⟩,
    S.types, fun w hw => cell_of_heap hw.1 rfl, S.imports, fun w hw => cell_of_heap hw.1 rfl, S.funcs, fun w hw => cell_of_heap hw.1 rfl, S.tables, fun w hw => cell_of_heap hw.1 rfl, S.mems, fun w hw => cell_of_heap hw.1 rfl, S.globals, fun w hw => cell_of_heap hw.1 rfl, S.exports, fun w hw => cell_of_heap hw.1 rfl, m.start, fun w hw => cell_of_heap hw.1 rfl, S.elems, fun w hw => cell_of_heap hw.1 rfl, S.codes, fun w hw => cell_of_heap hw.1 rfl, S.datas, fun w hw => cell_of_heap hw.1 rfl,
    t0, fun w hw => cell_of_heap hw.2.1 rfl, S.codes, fun w hw => cell_of_heap hw.1 rfl, qc, ⟨hqc, ndx.1, ndx.2⟩, s0, fun w hw => hw.2.2 _ _ cs0, ?_⟩
  refine Na.mk fun b35 W6 hb35 hm6 hz6 hc35 => ?_
  have hm06 := hm05.trans0 hm6
  have hsub6 := hr.mod0 hm06
  refine ⟨⟨hm6.heap d2 (fun h => h), hm6.heap d6 (fun h => h), hsub6⟩, ?_⟩
  have hcat : SlOf 1 (SlAt 1 (IntR .i64)) W6.cell? ⟨some ⟨b35, 0, none⟩, 2, 2⟩ [sg.1.ins, c.locals] := by
    refine ⟨rfl, fun j xs hxs => ⟨_, rfl, ?_⟩⟩
    match j, hxs with
    | 0, hxs =>
      simp at hxs; subst hxs
      refine ⟨t0, by rw [add_mk]; exact cell_of_heap hc35 rfl, ?_⟩
      exact ((n0.own.mod0 hm25).mod0 hm6).intsAll
    | 1, hxs =>
      simp at hxs; subst hxs
      refine ⟨s0, by rw [add_mk]; exact cell_of_heap hc35 rfl, ?_⟩
      exact Ints.mono il (fun p v hp => hsub6 _ _ hp)
    | j + 2, hxs => simp at hxs
  refine CallV.mk ent_slices_Concat_int (Concat_int_spec (s := ⟨some ⟨b35, 0, none⟩, 2, 2⟩) (xss := [sg.1.ins, c.locals]) (Sub.self W6) hcat (by simp; unfold big; omega) (by simp; unfold big; omega)) ?_
  rintro e W7 ⟨t7, rfl, n7⟩
  have hm07 := hm06.trans0 n7.mod
  have e2 := n7.mod.heap (hm6.heap d2 (fun h => h)) (fun h => h)
  have e6 := n7.mod.heap (hm6.heap d6 (fun h => h)) (fun h => h)
  refine ⟨_, rfl, t7, rfl, ⟨e2, e6, hr.mod0 hm07⟩, ?_⟩
  refine Na.mk fun b38 W8 hb38 hm8 hz8 hc38 => ?_
  have hm08 := hm07.trans0 hm8
  have f2 := hm8.heap e2 (fun h => h)
  have f6 := hm8.heap e6 (fun h => h)
  have lt38 := heap_lt hc38
  have z1 := hm1.size
  have z07 := hm07.size
  have z17 : W1.heap.size ≤ W7.heap.size := ((hm15.trans0 hm6).trans0 n7.mod).size
  refine ⟨⟨f2, f6, hr.mod0 hm08⟩, t1, cell_of_heap f6 rfl, ?_⟩
  -- the walker
  have hle8 : Le r (offS W8 (FX (fun b => b = b38) NoB)) := rd_old hr hm08 (fun b x => x.elim (fun y => by omega) (fun y => y.elim))
  have hsm : ∀ b, FX (fun b => b = b38) NoB b → b = b38 := fun b x => x.elim id (fun y => y.elim)
  have own_rd : ∀ {s : Sl} {xs : List Int}, Own W7 ty_int 1 s (iv xs) → Ints (offS W8 (FX (fun b => b = b38) NoB)) s xs := by
    intro s xs ho
    refine (ho.mod0 hm8).ints (fun q hq j v hv => offS_of hv (fun x => ?_))
    have h1 := hsm _ x
    rw [add_block] at h1
    have h2 := ho.lt (b := q.block) ⟨q, hq, rfl⟩
    omega
  have flat2 : [sg.1.ins, c.locals].flatten = sg.1.ins ++ c.locals := by simp
  rw [flat2] at n7
  have h8 : WalkIn W8 (fun b => b = b38) NoB S m (sg.1.ins ++ c.locals) b38 t7 ⟨none, 0, 0⟩ ⟨none, 0, 0⟩ [] ⟨[], [], false⟩ := {
    blk := hc38
    mr := ModR.mono hle8 hm
    lcs := own_rd n7.own
    stk := Own.nil _ _ _
    bls := Own.nil _ _ _
    bk := rfl
    io := fun b hb => by cases hb
    nss := nil_notB _
    nsb := nil_notB _
    ndd := fun b x => (nil_notB b x).elim
    fw := rfl
    fss := fun b x => (nil_notB b x).elim
    fsb := fun b x => (nil_notB b x).elim
    lt := fun b x => by omega }
  have it1 : Ints (offS W8 (FX (fun b => b = b38) NoB)) t1 sg.1.outs := own_rd (((n1.own.mod0 hm25).mod0 hm6).mod0 n7.mod)
  refine WalkPost.go ent_valid_walker_open (open_spec h8.at (by show 0 + 1 ≤ big; unfold big; omega) (SlOf.nil none 0) it1 2) (Mod.refl _ _) (Grows.refl _ _) (fun W9 F9 h9 _ _ m9 g9 => ⟨rfl, ?_⟩)
  replace h9 : WalkAt W9 ⟨b38, 0, none⟩ F9 NoB S m (sg.1.ins ++ c.locals) (wk0 sg.1.outs) := h9
  have hF9 : ∀ b, F9 b → W7.heap.size ≤ b := fun b x => (g9 b x).elim (fun y => by have y : b = b38 := y; omega) (fun y => by have := hm8.size; omega)
  have hm09 : Mod NoB W W9 := hm08.trans m9 (fun j hj e => by have e : j = b38 := e; omega)
  have k2 := m9.heap f2 (fun e => by have e : b2 = b38 := e; omega)
  refine ⟨S.codes, cell_of_heap k2 rfl, qc, ⟨hqc, ndx.1, ndx.2⟩, s1, hr.mod0 hm09 _ _ cs1, ?_⟩
  have hbl := ib.1
  rw [hbl]
  refine make_marks (by unfold big; omega) (fun s51 W10 hown10 hm10 hf10 hl51 ha51 => ⟨s51, rfl, ?_⟩)
  have hm010 := hm09.trans0 hm10
  have k10 := hm10.heap k2 (fun h => h)
  refine ⟨S.codes, cell_of_heap k10 rfl, qc, ⟨hqc, ndx.1, ndx.2⟩, s1, hr.mod0 hm010 _ _ cs1, ?_⟩
  rw [hbl]
  have h10 : WalkAt W10 ⟨b38, 0, none⟩ F9 s51.isB S m (sg.1.ins ++ c.locals) (wk0 sg.1.outs) := h9.beside hm10 (fun b x => x.elim) (fun b x => x.elim) (fun b x => .inr (hf10 b x))
  have hz9 : W.heap.size ≤ W9.heap.size := hm09.size
  have hz79 : W7.heap.size ≤ W9.heap.size := Nat.le_trans hm8.size m9.size
  have hd10 : ∀ b, s51.isB b → ¬ F9 b := fun b x y => by have := hf10 b x; have := h9.lt b y; omega
  obtain ⟨qm, hqm⟩ := ha51
  intro L hL
  have key : ∀ (n j : Nat) (k1 : Wk) (done : List Mark) (st : List Int) (W11 : World) (F11 : Nat → Prop), n = c.body.length - j → j ≤ c.body.length → done.length = j → WalkAt W11 ⟨b38, 0, none⟩ F11 s51.isB S m (sg.1.ins ++ c.locals) k1 →
      (j < c.body.length → k1.Ok ∧ closedGo ((c.body.drop j).map (·.op)) st = true ∧ k1.blocks.length = st.length + 1) → k1.Ty → k1.stack.length ≤ 4 * codeW (c.body.take j) → k1.blocks.length ≤ j + 1 →
      Own W11 ty_Mark 3 s51 ((done ++ List.replicate (c.body.length - j) mark0).flatMap markC) → Mod NoB W W11 → W7.heap.size ≤ W11.heap.size → (∀ b, F11 b → W7.heap.size ≤ b) → (∀ b, s51.isB b → ¬ F11 b) → W11.heap[b2]? = some (.cells #[S.types.v, S.imports.v, S.funcs.v, S.tables.v, S.mems.v, S.globals.v, S.exports.v, .int .i64 m.start, S.elems.v, S.codes.v, S.datas.v] 32 (0, 0)) →
      walkGo m (sg.1.ins ++ c.locals) (wk0 sg.1.outs) c.body = (walkGo m (sg.1.ins ++ c.locals) k1 (c.body.drop j)).map (done ++ ·) → L (j : Int) W11 := by
    intro n
    induction n with
    | zero =>
      intro j k1 done st W11 F11 hn hj hdl h11 hgo ht hsl hbk hown hm11 hz7 hF11 hd11 hk2 he
      have hj : j = c.body.length := by omega
      refine hL _ _ (Br.dec (fun h => by omega) (fun _ => ?_))
      have he' : walkGo m (sg.1.ins ++ c.locals) (wk0 sg.1.outs) c.body = some done := by
        rw [he, hj, List.drop_length]; simp [walkGo]
      rw [he']
      refine ⟨hm11, s51, rfl, ?_, fun b x => by have := hf10 b x; omega⟩
      rw [hj, Nat.sub_self] at hown
      simpa using hown
    | succ n ih =>
      intro j k1 done st W11 F11 hn hj hdl h11 hgo ht hsl hbk hown hm11 hz7 hF11 hd11 hk2 he
      have hlt : j < c.body.length := by omega
      have hn1 : n = c.body.length - (j + 1) := by omega
      obtain ⟨hk, hclo, hnst⟩ := hgo hlt
      obtain ⟨x, hx⟩ : ∃ x, x = c.body[j] := ⟨_, rfl⟩
      rw [List.drop_eq_getElem_cons hlt, ← hx] at hclo he
      rw [List.map_cons] at hclo
      rw [walkGo] at he
      refine hL _ _ (Br.dec (fun _ => ?_) (fun h => absurd (by omega) h))
      obtain ⟨p, hp, i0, i1, i2, i3, i4, sx, i5, i6, i7⟩ := ib.get hlt
      rw [← hx] at i0 i1 i2 i3 i4 i6 i7
      have hs11 := hr.mod0 hm11
      refine ⟨p, ⟨hp, by omega, by omega⟩, _, hs11 _ _ i0, _, hs11 _ _ i1, _, hs11 _ _ i2, _, hs11 _ _ i3, _, hs11 _ _ i4, sx, hs11 _ _ i5, ?_⟩
      refine Na.mk fun b12 W12 hb12 hm12 hz12 hc12 => ?_
      have lt12 := heap_lt hc12
      refine stC_at (b := b12) (o := 0) rfl hc12 (by simp) (by simp [Value.oneCell', Sl.v]) (fun W13 c12 m13 sz13 => ?_)
      rw [setL_all (by simp)] at c12
      have hm1113 : Mod NoB W11 W13 := hm12.trans m13 (fun i hi e => by omega)
      have h13 := h11.mod0 hm1113
      obtain ⟨wb, sl, ss, sb, bs, hwb, g13⟩ := h13
      cases hwb
      obtain ⟨b, hlast, hbm, hble⟩ := hk.last
      have n12 : ¬ F11 b12 := h11.new (by omega)
      have x12 : ¬ s51.isB b12 := fun y => by have := hown.lt y; omega
      have hbig : k1.blocks.length + 2 ≤ big := by unfold big; omega
      refine CallV.mk ent_valid_walker_top (top_spec g13 hk.ne (by omega)) ?_
      rintro e W14 ⟨g, rfl, hg, hm14, hh14⟩
      have g14 := g13.mod0 hm14
      have hm1114 := hm1113.trans0 hm14
      have c14 := hm14.heap c12 (fun h => h)
      obtain ⟨y, hy, hym, hbs, hFg, hcy⟩ := g14.lastAt hlast hg
      subst hy
      have hown14 := hown.mod0 hm1114
      have hm014 := hm11.trans0 hm1114
      have cc : ∀ (w : World), w.heap[b12]? = some (.cells #[.int .i64 x.op, .int .i64 x.a, .int .i64 x.b, .int .u64 x.lo, .int .u64 x.hi, sx.v] 40 (0, 0)) → ∀ (j : Nat) (v : Value), (#[.int .i64 x.op, .int .i64 x.a, .int .i64 x.b, .int .u64 x.lo, .int .u64 x.hi, sx.v] : Array Value)[j]? = some v → w.cell? ((⟨b12, 0, none⟩ : Addr).add j) = some v := by
        intro w hw j v hv
        rw [add_mk]
        exact cell_of_heap hw (by rw [Nat.zero_add]; exact hv)
      have hxw : instrW x + codeW (c.body.take j) ≤ codeW c.body := by
        have h1 := codeW_take c.body (j + 1)
        rw [List.take_succ_eq_append_getElem hlt, ← hx] at h1
        unfold codeW at h1 ⊢
        rw [List.map_append, List.sum_append, List.map_cons, List.map_nil, List.sum_cons, List.sum_nil] at h1
        omega
      unfold instrW at hxw
      have hxm : x ∈ c.body := by rw [hx]; exact List.getElem_mem hlt
      have hxo := hc.ins x hxm
      have hxg := instrOf_good (instrE_ok hxo).1
      -- behind the mark
      have fin : ∀ (W16 : World), WalkIn W16 F11 s51.isB S m (sg.1.ins ++ c.locals) b38 sl ss sb bs k1 → Mod NoB W W16 → W7.heap.size ≤ W16.heap.size → W16.heap[b12]? = some (.cells #[.int .i64 x.op, .int .i64 x.a, .int .i64 x.b, .int .u64 x.lo, .int .u64 x.hi, sx.v] 40 (0, 0)) →
          Own W16 ty_Mark 3 s51 (((done ++ [k1.mark]) ++ List.replicate (c.body.length - (j + 1)) mark0).flatMap markC) → W16.heap[b2]? = some (.cells #[S.types.v, S.imports.v, S.funcs.v, S.tables.v, S.mems.v, S.globals.v, S.exports.v, .int .i64 m.start, S.elems.v, S.codes.v, S.datas.v] 32 (0, 0)) → ∃ x102_0 : Int, W16.cell? ((⟨b12, 0, none⟩ : Addr).add 0) = some (.int .i64 x102_0) ∧
            ∃ x102_1 : Int, W16.cell? ((⟨b12, 0, none⟩ : Addr).add 1) = some (.int .i64 x102_1) ∧
            ∃ x102_2 : Int, W16.cell? ((⟨b12, 0, none⟩ : Addr).add 2) = some (.int .i64 x102_2) ∧
            ∃ x102_3 : Int, W16.cell? ((⟨b12, 0, none⟩ : Addr).add 3) = some (.int .u64 x102_3) ∧
            ∃ x102_4 : Int, W16.cell? ((⟨b12, 0, none⟩ : Addr).add 4) = some (.int .u64 x102_4) ∧
            ∃ s102_5 : Sl, W16.cell? ((⟨b12, 0, none⟩ : Addr).add 5) = some s102_5.v ∧
            CallV Tryd.prog f_valid_walker_step #[(.pointer (some ⟨b38, 0, none⟩)), (.agg #[(.int .i64 x102_0), (.int .i64 x102_1), (.int .i64 x102_2), (.int .u64 x102_3), (.int .u64 x102_4), s102_5.v])] W16 fun v W17 => v = (.tuple #[]) ∧
            ∃ q105 : Addr, (some (⟨b38, 0, none⟩ : Addr)) = some q105 ∧
            ∃ b107 : Bool, W17.cell? (q105.add 14) = some (.bool b107) ∧
            Br b107
              (TypedPost W (walkGo m (sg.1.ins ++ c.locals) (wk0 sg.1.outs) c.body) (Ending.returned (.tuple #[(.slice none 0 0), (.bool false)])) W17)
              (L (IntKind.wrap .i64 ((j : Int) + 1)) W17) := by
        intro W16 g16 hm016 hz16 c16 hown16 hk216
        have hFX : ∀ b, FX F11 s51.isB b → W.heap.size ≤ b := fun b z => z.elim (fun u => by have := hF11 b u; omega) (fun u => by have := hf10 b u; omega)
        have hxl : Ints (offS W16 (FX F11 s51.isB)) sx x.l := Ints.mono i6 (rd_old hr hm016 hFX)
        refine ⟨_, cc _ c16 0 _ rfl, _, cc _ c16 1 _ rfl, _, cc _ c16 2 _ rfl, _, cc _ c16 3 _ rfl, _, cc _ c16 4 _ rfl, sx, cc _ c16 5 _ rfl, ?_⟩
        refine WalkPost.go ent_valid_walker_step (step_spec g16.at (fun b z => hown16.lt z) hk ht x sx hxl hbig (by unfold big; omega) hT (stepOk_of hxo i7)) (Mod.refl _ _) (Grows.refl _ _) (fun W17 F17 h17 m17 g17 _ _ => ⟨rfl, _, rfl, ?_⟩)
        obtain ⟨k', hk'⟩ : ∃ k', k' = k1.step m (sg.1.ins ++ c.locals) (instrOf x.op).1 x := ⟨_, rfl⟩
        rw [← hk'] at h17 he
        obtain ⟨wb, sl', ss', sb', bs', hwb, g17'⟩ := h17
        cases hwb
        have hm017 : Mod NoB W W17 := hm016.trans m17 (fun i hi e => by have := hF11 i e; omega)
        refine ⟨k'.bad, by rw [add_mk]; exact cell_of_heap g17'.blk rfl, Br.mk (fun hbad => ?_) (fun hgood => ?_)⟩
        · rw [he, if_pos hbad]
          exact ⟨hm017, rfl⟩
        · rw [if_neg (by rw [hgood]; simp)] at he
          have hnx := step_next (lc := sg.1.ins ++ c.locals) hk ht hT hxg hnst hclo (by rw [← hk']; exact hgood)
          rw [← hk'] at hnx
          rw [wrap_id (by omega) (by omega)]
          have hd17 : ∀ b, s51.isB b → ¬ F17 b := fun b z => g17.keep (hown16.lt z) (hd11 b z)
          have htk : 4 * codeW (c.body.take j) + 4 * (60 + 10 * x.l.length) = 4 * codeW (c.body.take (j + 1)) := by
            rw [List.take_succ_eq_append_getElem hlt, ← hx]
            unfold codeW
            rw [List.map_append, List.sum_append, List.map_cons, List.map_nil, List.sum_cons, List.sum_nil]
            unfold instrW
            omega
          have hnsl := hnx.sl
          have hnbl := hnx.bl
          have hgo' : j + 1 < c.body.length → k'.Ok ∧ ∃ st', closedGo ((c.body.drop (j + 1)).map (·.op)) st' = true ∧ k'.blocks.length = st'.length + 1 := by
            intro hj1
            refine hnx.go (fun e => ?_)
            have : ((c.body.drop (j + 1)).map (·.op)).length = 0 := by rw [e]; rfl
            rw [List.length_map, List.length_drop] at this
            omega
          obtain ⟨st', hst'⟩ : ∃ st', j + 1 < c.body.length → k'.Ok ∧ closedGo ((c.body.drop (j + 1)).map (·.op)) st' = true ∧ k'.blocks.length = st'.length + 1 := by
            by_cases hj1 : j + 1 < c.body.length
            · obtain ⟨h1, st', h2, h3⟩ := hgo' hj1
              exact ⟨st', fun _ => ⟨h1, h2, h3⟩⟩
            · exact ⟨[], fun h => absurd h hj1⟩
          refine ih (j + 1) k' (done ++ [k1.mark]) st' W17 F17 hn1 hlt (by simp [hdl]) g17'.at hst' hnx.ty (by omega) (by omega) (hown16.mod m17 hd11) hm017 (Nat.le_trans hz16 m17.size) (fun b z => (g17 b z).elim (hF11 b) (fun u => by omega)) hd17 (m17.heap hk216 (fun z => by have := hF11 _ z; have := hm1.size; omega)) ?_
          rw [he, Option.map_map]
          congr 1
          funext l
          simp
      have hsplit : ∀ mk : Mark, ((done ++ [mk]) ++ List.replicate (c.body.length - (j + 1)) mark0) = done ++ (mk :: List.replicate (c.body.length - (j + 1)) mark0) := fun mk => by simp
      have hrep : List.replicate (c.body.length - j) mark0 = mark0 :: List.replicate (c.body.length - (j + 1)) mark0 := by
        rw [show c.body.length - j = (c.body.length - (j + 1)) + 1 from by omega, List.replicate_succ]
      rw [hrep] at hown14
      have hz14 : W7.heap.size ≤ W14.heap.size := Nat.le_trans hz7 hm1114.size
      have k214 := hm1114.heap hk2 (fun h => h)
      refine ⟨_, rfl, _, rfl, _, rfl, y.1.live, hcy 5 _ rfl, _, fun _ => rfl, y.1.dead, fun _ => hcy 4 _ rfl, Br.mk (fun hb => ?_) (fun hb => ?_)⟩
      · have hmk : k1.mark = ⟨true, k1.stack.length, vecsOf k1.stack⟩ := by simp only [Wk.mark, hlast]; rw [if_pos hb]
        have hsl14 := g14.slen
        have hst14 := g14.stk.intsAll
        refine ⟨_, rfl, ss, by rw [add_mk]; exact cell_of_heap g14.blk rfl, ?_⟩
        rw [hsl14]
        have hcwt := codeW_take c.body j
        intro L1 hL1
        have inner : ∀ (n t : Nat), n = k1.stack.length - t → t ≤ k1.stack.length → L1 ((vecsOf (k1.stack.take t) : Nat) : Int) (t : Int) W14 := by
          intro n
          induction n with
          | zero =>
            intro t hn ht
            have ht : t = k1.stack.length := by omega
            refine hL1 _ _ _ (Br.dec (fun h => by omega) (fun _ => ?_))
            rw [ht, List.take_length]
            refine ⟨_, rfl, ss, by rw [add_mk]; exact cell_of_heap g14.blk rfl, qm, ⟨hqm, by omega, by rw [hl51]; omega⟩, ?_⟩
            rw [hsl14]
            refine hown14.sets hqm (i := ((j : Int).toNat) * 3) (vs := markC ⟨true, k1.stack.length, vecsOf k1.stack⟩) (by rw [flat_len markC_len, markC_len]; simp; omega) (by rw [markC_len]; omega) (markC_one _) (fun W16 ho16 m16 z16 => ?_)
            rw [← hmk, Int.toNat_natCast] at ho16
            have ho16' : Own W16 ty_Mark 3 s51 (((done ++ [k1.mark]) ++ List.replicate (c.body.length - (j + 1)) mark0).flatMap markC) := by
              have e1 : (done ++ mark0 :: List.replicate (c.body.length - (j + 1)) mark0).flatMap markC = done.flatMap markC ++ (markC mark0 ++ (List.replicate (c.body.length - (j + 1)) mark0).flatMap markC) := by
                rw [List.flatMap_append, List.flatMap_cons]
              have hdm : (done.flatMap markC).length = j * 3 := by rw [flat_len markC_len, hdl]
              rw [e1, List.take_left' hdm, markC_len, ← List.append_assoc, List.drop_left' (by rw [List.length_append, hdm, markC_len])] at ho16
              rw [hsplit, List.flatMap_append, List.flatMap_cons, ← List.append_assoc]
              exact ho16
            have g16 := g14.beside (Xb := s51.isB) m16 (fun b z => z) hd11 (fun b z => .inl z)
            have hm016 : Mod NoB W W16 := hm014.trans m16 (fun i hi z => by have := hf10 i z; omega)
            exact fin W16 g16 hm016 (by rw [z16]; exact hz14) (m16.heap c14 x12) ho16' (m16.heap k214 (fun z => by have := hf10 _ z; have := hm1.size; omega))
          | succ n ihn =>
            intro t hn ht
            have hlt' : t < k1.stack.length := by omega
            obtain ⟨qs, hqs, hcs⟩ := hst14.get hlt'
            have hv := vecs_take k1.stack hlt'
            have hvl : vecsOf (k1.stack.take t) ≤ t := by
              unfold vecsOf
              exact Nat.le_trans (List.length_filter_le _ _) (List.length_take_le _ _)
            refine hL1 _ _ _ (Br.dec (fun _ => ?_) (fun h => absurd (by omega) h))
            refine ⟨qs, ⟨hqs, by omega, by omega⟩, _, hcs, Br.eq (fun h123 => ?_) (fun h123 => ?_)⟩
            · rw [if_pos h123] at hv
              rw [wrap_id (by omega) (by omega), wrap_id (by omega) (by omega)]
              have := ihn (t + 1) (by omega) hlt'
              rw [hv] at this
              exact this
            · rw [if_neg h123] at hv
              rw [wrap_id (x := (t : Int) + 1) (by omega) (by omega)]
              have := ihn (t + 1) (by omega) hlt'
              rw [hv] at this
              exact this
        exact inner k1.stack.length 0 (by omega) (by omega)
      · have hmk : k1.mark = mark0 := by simp only [Wk.mark, hlast]; rw [if_neg (by rw [hb]; simp)]; rfl
        exact fin W14 g14 hm014 hz14 c14 (by rw [hsplit, hmk]; exact hown14) k214
  have hok0 : (wk0 sg.1.outs).Ok := Wk.ok_open List.Pairwise.nil (fun b hb => by cases hb) 2 [] sg.1.outs
  refine key c.body.length 0 (wk0 sg.1.outs) [] [] W10 F9 (by omega) (by omega) rfl h10 (fun _ => ⟨hok0, hc.closed, rfl⟩) ?_ (by simp [wk0, Wk.open]) (by simp [wk0, Wk.open]) (by simpa using hown10) hm010 (Nat.le_trans hz79 hm10.size) hF9 hd10 k10 (by simp)
  intro b hb
  simp [wk0, Wk.open] at hb
  subst hb
  exact ⟨by simp, hsgl.2⟩
end Go.Proofs.YtacjnpahlbibhaaDoor
end
section
/- Contracts: valid.outer, Check, Marks. -/
set_option linter.unusedVariables false
set_option linter.unusedSimpArgs false
set_option maxRecDepth 100000
namespace Go.Proofs.YtacjnpahlbibhaaDoor
open Go Go.RowKit

/-! ### What an encoded module meets -/
theorem secE_ok' {α : Type} {id most : Int} {one : α → E} {xs : List α} (h : (secE id most one xs).ok = true) : (xs.length : Int) ≤ most ∧ ∀ x ∈ xs, (one x).ok = true := by
  simp only [secE] at h
  rw [E.app_ok, Bool.and_eq_true] at h
  refine ⟨by simpa using h.1, fun x hx => ?_⟩
  have hne : xs.isEmpty = false := by
    cases xs with
    | nil => cases hx
    | cons a r => rfl
  have h2 := h.2
  rw [hne] at h2
  simp only [Bool.false_eq_true, if_false, E.app_ok, Bool.and_eq_true] at h2
  exact E.cat_all h2.1.1.2 _ (List.mem_map.2 ⟨x, hx, rfl⟩)
structure EncOk (m : Module) : Prop where
  ty : TyM m
  same : m.funcs.length = m.codes.length
  kinds : ∀ x ∈ m.exports, 0 ≤ x.kind ∧ x.kind ≤ 3
  start : -1 ≤ m.start ∧ m.start < 4294967296
  codes : ∀ c ∈ m.codes, (codeE c).ok = true
theorem encOk_of {m : Module} (h : encR m = 0) : EncOk m := by
  have hok : (encE m).ok = true := by
    unfold encR at h
    split at h
    · assumption
    · omega
  simp only [encE, encPre, E.app_ok, Bool.and_eq_true] at hok
  obtain ⟨⟨⟨⟨⟨⟨⟨⟨⟨⟨⟨⟨h0, h1⟩, h2⟩, h3⟩, h4⟩, h5⟩, h6⟩, h7⟩, h8⟩, hs⟩, h9⟩, h10⟩, h11⟩ := hok
  refine ⟨fun t ht => ?_, ?_, fun x hx => ?_, ⟨by simpa using h8, ?_⟩, (secE_ok' h10).2⟩
  · have := (secE_ok' h1).2 t ht
    simp only [sigE, E.app_ok, Bool.and_eq_true, decide_eq_true_eq] at this
    omega
  · have : (m.funcs.length : Int) = m.codes.length := by simpa using h0
    omega
  · have := (secE_ok' h7).2 x hx
    simp only [exportE, E.app_ok, Bool.and_eq_true, decide_eq_true_eq] at this
    exact this.1.1.1
  · unfold startE at hs
    split at hs
    · simp only [putE, E.app_ok, Bool.and_eq_true, Bool.not_not] at hs
      exact (numE_ok hs.1.1).2
    · omega
theorem writeE_ok {l : List Instr} (h : (writeE l).ok = true) : closedOk l = true ∧ ∀ x ∈ l, (instrE x).ok = true := by
  unfold writeE at h
  split at h
  · rename_i hc
    rw [Bool.and_eq_true] at hc
    exact ⟨hc.1, fun x hx => E.cat_all hc.2 _ (List.mem_map.2 ⟨x, hx, rfl⟩)⟩
  · cases h
/-- Bodies that are not too great. -/
def Small (m : Module) : Prop := ∀ c ∈ m.codes, codeW c.body ≤ 1073741824
theorem codeOk_of {c : Code} (h : (codeE c).ok = true) (hw : codeW c.body ≤ 1073741824) : CodeOk c := by
  simp only [codeE, E.app_ok, Bool.and_eq_true, decide_eq_true_eq] at h
  have hb := h.1.2
  simp only [bodyE, E.app_ok, Bool.and_eq_true] at hb
  obtain ⟨h1, h2⟩ := writeE_ok hb.2
  exact ⟨h1, h2, hw, by omega⟩
/-! ### outer -/
def limOk (l : Limits) : Bool := !((l.max != -1) && decide (l.max < l.min))
def outerM (m : Module) : Bool :=
  let n := (m.imports.length : Int) + m.funcs.length
  if (List.range (m.imports.length + m.funcs.length)).all (fun f => (sigOf m (f : Int)).2) then
    if m.tables.length > 1 ∨ m.mems.length > 1 then false
    else if (m.tables ++ m.mems).all limOk then
      if m.mems.length = 1 ∧ (∃ l ∈ m.mems, l.max > 65536) then false
      else if m.globals.all (fun g => constOk g.init g.type) then namesOk m n && segOk m n else false
    else false
  else false
theorem range_all (p : Nat → Bool) (k : Nat) : (List.range (k + 1)).all p = ((List.range k).all p && p k) := by
  rw [List.range_succ, List.all_append]; simp
theorem outer_spec {W : World} {r : Rd} (hr : Sub r W) {S : MSl} {m : Module} (hm : ModR r S m) (hw : ModW m) (he : EncOk m) :
    Calls Tryd.prog f_valid_outer #[ModV S m] W fun e W' => e = .returned (.bool (outerM m)) ∧ Mod NoB W W' := by
  have w1 := hw.imports
  have w2 := hw.funcs
  have w3 := hw.tables
  have w4 := hw.mems
  have w5 := hw.globals
  refine of_valid_outer _ _ _ _ _ _ _ _ _ _ _ _ _ ?_
  unfold V_valid_outer
  refine Na.mk fun b1 W1 hb1 hm1 hz1 hc1 => ?_
  have lt1 := heap_lt hc1
  refine ⟨S.imports, cell_of_heap hc1 rfl, S.funcs, cell_of_heap hc1 rfl, ?_⟩
  obtain ⟨n, hn⟩ : ∃ n : Nat, n = m.imports.length + m.funcs.length := ⟨_, rfl⟩
  have hnn : IntKind.wrap .i64 ((S.imports.len : Int) + (S.funcs.len : Int)) = (n : Int) := by rw [hm.imports.1, hm.funcs.1, wrap_id (by omega) (by omega)]; omega
  rw [hnn]
  have hn' : ((m.imports.length : Int) + m.funcs.length) = (n : Int) := by omega
  intro L hL
  have key : ∀ (d k : Nat) (W2 : World), d = n - k → k ≤ n → (List.range k).all (fun f => (sigOf m (f : Int)).2) = true → Mod NoB W1 W2 → L (k : Int) W2 := by
    intro d
    induction d with
    | zero =>
      intro k W2 hd hk hall hm2
      have hk : k = n := by omega
      rw [hk] at hall
      refine hL _ _ (Br.dec (fun h => by omega) (fun _ => ?_))
      have h2 := hm2.heap hc1 (fun h => h)
      have hE : outerM m = if m.tables.length > 1 ∨ m.mems.length > 1 then false
          else if (m.tables ++ m.mems).all limOk then
            if m.mems.length = 1 ∧ (∃ l ∈ m.mems, l.max > 65536) then false
            else if m.globals.all (fun g => constOk g.init g.type) then namesOk m n && segOk m n else false
          else false := by
        simp only [outerM, ← hn, hall, if_true, hn']
      refine ⟨S.tables, cell_of_heap h2 rfl, S.mems, fun _ => cell_of_heap h2 rfl, ?_⟩
      rw [hm.tables.1, hm.mems.1]
      refine Br.mk (fun hb => ⟨?_, hm1.trans0 hm2⟩) (fun hb => ?_)
      · rw [hE, if_pos]
        rw [Bool.or_eq_true, decide_eq_true_eq, decide_eq_true_eq] at hb
        omega
      · have hno : ¬ (m.tables.length > 1 ∨ m.mems.length > 1) := by
          rw [Bool.or_eq_false_iff, decide_eq_false_iff_not, decide_eq_false_iff_not] at hb
          omega
        rw [if_neg hno] at hE
        refine ⟨S.tables, cell_of_heap h2 rfl, S.mems, cell_of_heap h2 rfl, ?_⟩
        refine Na.mk fun b45 W6 hb45 hm6 hz6 hc6 => ?_
        have hs6 := (hr.mod0 hm1).mod0 (hm2.trans0 hm6)
        have hlr : ∀ {s : Sl} {xs : List Limits}, SlOf 2 LimitsR r s xs → SlOf 2 LimitsR W6.cell? s xs := fun h => SlOf.mono (fun r r' q x hl ⟨h0, h1⟩ => ⟨hl _ _ h0, hl _ _ h1⟩) (fun p v hp => hs6 p v hp) h
        have hcat : SlOf 1 (SlAt 2 LimitsR) W6.cell? ⟨some ⟨b45, 0, none⟩, 2, 2⟩ [m.tables, m.mems] := by
          refine ⟨rfl, fun j xs hxs => ⟨_, rfl, ?_⟩⟩
          match j, hxs with
          | 0, hxs => simp at hxs; subst hxs; exact ⟨S.tables, by rw [add_mk]; exact cell_of_heap hc6 rfl, hlr hm.tables⟩
          | 1, hxs => simp at hxs; subst hxs; exact ⟨S.mems, by rw [add_mk]; exact cell_of_heap hc6 rfl, hlr hm.mems⟩
          | j + 2, hxs => simp at hxs
        have hfl : [m.tables, m.mems].flatten = m.tables ++ m.mems := by simp
        have hfll : (m.tables ++ m.mems).length ≤ 2 := by rw [List.length_append]; omega
        refine CallV.mk ent_slices_Concat_Limits (Concat_Limits_spec (s := ⟨some ⟨b45, 0, none⟩, 2, 2⟩) (xss := [m.tables, m.mems]) (Sub.self W6) hcat (by rw [hfl]; unfold big; omega) (by simp; unfold big; omega)) ?_
        rintro e W7 ⟨t, rfl, hlim, hm7⟩
        rw [hfl] at hlim
        refine ⟨_, rfl, t, rfl, ?_⟩
        have hm17 := (hm2.trans0 hm6).trans0 hm7
        intro L1 hL1
        have key1 : ∀ (d k : Nat) (W8 : World), d = (m.tables ++ m.mems).length - k → k ≤ (m.tables ++ m.mems).length → ((m.tables ++ m.mems).take k).all limOk = true → Mod NoB W7 W8 → L1 (k : Int) W8 := by
          intro d
          induction d with
          | zero =>
            intro k W8 hd hk hall1 hm8
            have hk : k = (m.tables ++ m.mems).length := by omega
            rw [hk, List.take_length] at hall1
            rw [if_pos hall1] at hE
            have hm18 := hm17.trans0 hm8
            have h8 := hm18.heap hc1 (fun h => h)
            have hs8 := (hr.mod0 hm1).mod0 hm18
            refine hL1 _ _ (Br.dec (fun h => by rw [hlim.1] at h; omega) (fun _ => ?_))
            -- behind the limits
            have hmm := hm.mems.1
            obtain ⟨q70, x72, hq, hx, hB⟩ : ∃ (q70 : Addr) (x72 : Int), ((((S.mems.len : Nat) : Int) == 1) = true → (S.mems.a = some q70 ∧ (0 : Int) ≤ 0 ∧ 0 < (S.mems.len : Int))) ∧ ((((S.mems.len : Nat) : Int) == 1) = true → W8.cell? ((q70.add ((0 : Int).toNat * 2)).add 1) = some (.int .i64 x72)) ∧
                ((((S.mems.len : Nat) : Int) == 1) && (decide ((x72 : Int) > 65536))) = decide (m.mems.length = 1 ∧ (∃ l ∈ m.mems, l.max > 65536)) := by
              by_cases h1 : m.mems.length = 1
              · obtain ⟨l, hl⟩ : ∃ l, m.mems = [l] := by
                  match hh : m.mems, h1 with
                  | [l], _ => exact ⟨l, rfl⟩
                obtain ⟨qm, hqm, c0, c1⟩ := hm.mems.get (i := 0) (by omega)
                have e0 : m.mems[0] = l := by simp [hl]
                rw [e0] at c0 c1
                refine ⟨qm, l.max, fun _ => ⟨hqm, by omega, by omega⟩, fun _ => hs8 _ _ c1, ?_⟩
                have e1 : ((S.mems.len : Int) == 1) = true := by rw [hmm, h1]; rfl
                rw [e1, Bool.true_and, hl]
                simp
              · have e1 : ((S.mems.len : Int) == 1) = false := by rw [hmm]; exact beq_false_of_ne (by omega)
                refine ⟨⟨0, 0, none⟩, 0, (fun h => by rw [e1] at h; cases h), (fun h => by rw [e1] at h; cases h), ?_⟩
                rw [e1, Bool.false_and, decide_eq_false (fun h => h1 h.1)]
            refine ⟨S.mems, cell_of_heap h8 rfl, S.mems, fun _ => cell_of_heap h8 rfl, q70, hq, x72, hx, ?_⟩
            rw [hB]
            refine Br.dec (fun hbig => ⟨by rw [hE, if_pos hbig], hm1.trans0 hm18⟩) (fun hsm => ?_)
            rw [if_neg hsm] at hE
            refine ⟨S.globals, cell_of_heap h8 rfl, ?_⟩
            intro L2 hL2
            have key2 : ∀ (d k : Nat) (W11 : World), d = m.globals.length - k → k ≤ m.globals.length → (m.globals.take k).all (fun g => constOk g.init g.type) = true → Mod NoB W1 W11 → L2 (k : Int) W11 := by
              intro d
              induction d with
              | zero =>
                intro k W11 hd hk hall2 hm11
                have hk : k = m.globals.length := by omega
                rw [hk, List.take_length] at hall2
                rw [if_pos hall2] at hE
                have h11 := hm11.heap hc1 (fun h => h)
                have hs11 := (hr.mod0 hm1).mod0 hm11
                refine hL2 _ _ (Br.dec (fun h => by rw [hm.globals.1] at h; omega) (fun _ => ?_))
                refine ⟨S.types, cell_of_heap h11 rfl, S.imports, cell_of_heap h11 rfl, S.funcs, cell_of_heap h11 rfl, S.tables, cell_of_heap h11 rfl, S.mems, cell_of_heap h11 rfl, S.globals, cell_of_heap h11 rfl, S.exports, cell_of_heap h11 rfl, m.start, cell_of_heap h11 rfl, S.elems, cell_of_heap h11 rfl, S.codes, cell_of_heap h11 rfl, S.datas, cell_of_heap h11 rfl, ?_⟩
                refine CallV.mk ent_valid_names (names_spec hs11 hm hw he.kinds (by have := he.start.2; omega) (n : Int)) ?_
                rintro e W15 ⟨rfl, hm15⟩
                have hm115 := hm11.trans0 hm15
                have h15 := hm115.heap hc1 (fun h => h)
                refine ⟨_, rfl, _, rfl, S.types, fun _ => cell_of_heap h15 rfl, S.imports, fun _ => cell_of_heap h15 rfl, S.funcs, fun _ => cell_of_heap h15 rfl, S.tables, fun _ => cell_of_heap h15 rfl, S.mems, fun _ => cell_of_heap h15 rfl, S.globals, fun _ => cell_of_heap h15 rfl, S.exports, fun _ => cell_of_heap h15 rfl, m.start, fun _ => cell_of_heap h15 rfl, S.elems, fun _ => cell_of_heap h15 rfl, S.codes, fun _ => cell_of_heap h15 rfl, S.datas, fun _ => cell_of_heap h15 rfl, fun ht => ?_, fun hf => ?_⟩
                · refine CallV.mk ent_valid_segments (segments_spec ((hr.mod0 hm1).mod0 hm115) hm hw (n : Int)) ?_
                  rintro e W16 ⟨rfl, hm16⟩
                  refine ⟨_, rfl, _, rfl, ?_, hm1.trans0 (hm115.trans0 hm16)⟩
                  rw [hE, ht, Bool.true_and]
                · refine ⟨?_, hm1.trans0 hm115⟩
                  rw [hE, show namesOk m (n : Int) = false from hf, Bool.false_and]
              | succ d ih =>
                intro k W11 hd hk hall2 hm11
                have hlt : k < m.globals.length := by omega
                have hs11 := (hr.mod0 hm1).mod0 hm11
                refine hL2 _ _ (Br.dec (fun _ => ?_) (fun hge => absurd (by rw [hm.globals.1]; omega) hge))
                obtain ⟨q, hq, c0, c1, sg, c2, ig⟩ := hm.globals.get hlt
                refine ⟨q, ⟨hq, by omega, by rw [hm.globals.1]; omega⟩, _, hs11 _ _ c0, _, hs11 _ _ c1, sg, hs11 _ _ c2, ?_⟩
                refine Na.mk fun b10 W12 hb10 hm12 hz12 hc12 => ?_
                have lt10 := heap_lt hc12
                refine stC_at (b := b10) (o := 0) rfl hc12 (by simp) (by simp [Value.oneCell', Sl.v]) (fun W13 h13 m13 sz13 => ?_)
                rw [setL_all (by simp)] at h13
                have hm1113 : Mod NoB W11 W13 := hm12.trans m13 (fun i hi e => by omega)
                have hm113 := hm11.trans0 hm1113
                refine ⟨sg, cell_of_heap h13 rfl, _, cell_of_heap h13 rfl, ?_⟩
                refine CallV.mk ent_valid_constant (constant_ok ((hr.mod0 hm1).mod0 hm113) ig _) ?_
                rintro e W14 ⟨rfl, rfl⟩
                refine ⟨_, rfl, _, rfl, Br.mk (fun hb => ⟨?_, hm1.trans0 hm113⟩) (fun hb => ?_)⟩
                · have hbf : constOk m.globals[k].init m.globals[k].type = false := by simpa using hb
                  have : m.globals.all (fun g => constOk g.init g.type) = false := all_bad hlt hbf
                  rw [hE, if_neg (by rw [this]; simp)]
                · have hbt : constOk m.globals[k].init m.globals[k].type = true := by simpa using hb
                  rw [wrap_id (by omega) (by omega)]
                  refine ih (k + 1) _ (by omega) hlt ?_ hm113
                  rw [all_take _ hlt, hall2, hbt]; rfl
            exact key2 _ 0 W8 rfl (by omega) rfl hm18
          | succ d ih =>
            intro k W8 hd hk hall1 hm8
            have hlt : k < (m.tables ++ m.mems).length := by omega
            refine hL1 _ _ (Br.dec (fun _ => ?_) (fun hge => absurd (by rw [hlim.1]; omega) hge))
            obtain ⟨q, hq, c0, c1⟩ := hlim.get hlt
            refine ⟨q, ⟨hq, by omega, by rw [hlim.1]; omega⟩, _, hm8.cell c0 (fun h => h), _, hm8.cell c1 (fun h => h), ?_⟩
            refine Na.mk fun b8 W9 hb8 hm9 hz9 hc9 => ?_
            have lt8 := heap_lt hc9
            refine stC_at (b := b8) (o := 0) rfl hc9 (by simp) (by simp [Value.oneCell']) (fun W10 h10 m10 sz10 => ?_)
            rw [setL_all (by simp)] at h10
            have hm810 : Mod NoB W8 W10 := hm9.trans m10 (fun i hi e => by omega)
            have hm710 := hm8.trans0 hm810
            refine ⟨_, cell_of_heap h10 rfl, _, fun _ => cell_of_heap h10 rfl, _, fun _ => cell_of_heap h10 rfl, Br.mk (fun hb => ⟨?_, hm1.trans0 (hm17.trans0 hm710)⟩) (fun hb => ?_)⟩
            · have hbf : limOk (m.tables ++ m.mems)[k] = false := by unfold limOk; rw [hb]; rfl
              have : (m.tables ++ m.mems).all limOk = false := all_bad hlt hbf
              rw [hE, if_neg (by rw [this]; simp)]
            · have hbt : limOk (m.tables ++ m.mems)[k] = true := by unfold limOk; rw [hb]; rfl
              rw [wrap_id (by omega) (by omega)]
              refine ih (k + 1) _ (by omega) hlt ?_ hm710
              rw [all_take _ hlt, hall1, hbt]; rfl
        exact key1 _ 0 W7 rfl (by omega) rfl (Mod.refl _ _)
    | succ d ih =>
      intro k W2 hd hk hall hm2
      have hlt : k < n := by omega
      have h2 := hm2.heap hc1 (fun h => h)
      refine hL _ _ (Br.dec (fun _ => ?_) (fun hge => absurd (by omega) hge))
      refine ⟨S.types, cell_of_heap h2 rfl, S.imports, cell_of_heap h2 rfl, S.funcs, cell_of_heap h2 rfl, S.tables, cell_of_heap h2 rfl, S.mems, cell_of_heap h2 rfl, S.globals, cell_of_heap h2 rfl, S.exports, cell_of_heap h2 rfl, m.start, cell_of_heap h2 rfl, S.elems, cell_of_heap h2 rfl, S.codes, cell_of_heap h2 rfl, S.datas, cell_of_heap h2 rfl, ?_⟩
      refine CallV.mk ent_valid_Sig (Sig_spec ((hr.mod0 hm1).mod0 hm2) hm _ (by omega) hm.tlen) ?_
      rintro e W3 ⟨t0, t1, rfl, n0, n1, hd⟩
      refine ⟨_, rfl, t0, t1, _, rfl, ?_⟩
      refine Na.mk fun b5 W4 hb5 hm4 hz4 hc4 => ?_
      have lt5 := heap_lt hc4
      refine stC_at (b := b5) (o := 0) rfl hc4 (by simp) (by simp [Value.oneCell', Sl.v]) (fun W5 h5 m5 sz5 => ?_)
      have hm35 : Mod NoB W3 W5 := hm4.trans m5 (fun i hi e => by omega)
      have hm15 := (hm2.trans0 n0.mod).trans0 hm35
      refine Br.mk (fun hb => ⟨?_, hm1.trans0 hm15⟩) (fun hb => ?_)
      · have hbf : (sigOf m (k : Int)).2 = false := by simpa using hb
        have : (List.range (m.imports.length + m.funcs.length)).all (fun f => (sigOf m (f : Int)).2) = false := by
          rw [List.all_eq_false]
          exact ⟨k, by rw [List.mem_range]; omega, by rw [hbf]; simp⟩
        simp only [outerM, this]; rfl
      · have hbt : (sigOf m (k : Int)).2 = true := by simpa using hb
        rw [wrap_id (by omega) (by omega)]
        refine ih (k + 1) _ (by omega) hlt ?_ hm15
        rw [range_all, hall, hbt]; rfl
  exact key n 0 W1 (by omega) (by omega) rfl (Mod.refl _ _)
end Go.Proofs.YtacjnpahlbibhaaDoor
end
section
/- Contracts: valid.Check, Marks. -/
set_option linter.unusedVariables false
set_option linter.unusedSimpArgs false
set_option maxRecDepth 100000
namespace Go.Proofs.YtacjnpahlbibhaaDoor
open Go Go.RowKit

def checkM (m : Module) : Int :=
  if encR m ≠ 0 then encR m else if outerM m then (if (List.range m.codes.length).all (fun i => (typedM m i).isSome) then 0 else 12) else 12
def marksM (m : Module) (f : Int) : List Mark × Int :=
  if checkM m = 1 ∨ f < 0 ∨ f ≥ m.codes.length then ([], 1) else if checkM m ≠ 0 then ([], checkM m) else ((typedM m f.toNat).getD [], 0)
/-- What stands where the contracts of package valid read. -/
structure ModAt (r : Rd) (S : MSl) (m : Module) : Prop where
  tabs : TabsR r
  rd : ModR r S m
  room : ModW m
  small : Small m
theorem EncOk.code {m : Module} (h : EncOk m) (hs : Small m) {i : Nat} (hi : i < m.codes.length) : CodeOk m.codes[i] :=
  codeOk_of (h.codes _ (List.getElem_mem hi)) (hs _ (List.getElem_mem hi))
theorem Check_spec {W : World} {r : Rd} (hr : Sub r W) {S : MSl} {m : Module} (h : ModAt r S m) :
    Calls Tryd.prog f_valid_Check #[ModV S m] W fun e W' => e = .returned (.int .i64 (checkM m)) ∧ Mod NoB W W' := by
  have hm := h.rd
  have hw := h.room
  have wc := hw.codes
  refine of_valid_Check _ _ _ _ _ _ _ _ _ _ _ _ _ ?_
  unfold V_valid_Check
  refine Na.mk fun b1 W1 hb1 hm1 hz1 hc1 => ?_
  refine ⟨S.types, cell_of_heap hc1 rfl, S.imports, cell_of_heap hc1 rfl, S.funcs, cell_of_heap hc1 rfl, S.tables, cell_of_heap hc1 rfl, S.mems, cell_of_heap hc1 rfl, S.globals, cell_of_heap hc1 rfl, S.exports, cell_of_heap hc1 rfl, m.start, cell_of_heap hc1 rfl, S.elems, cell_of_heap hc1 rfl, S.codes, cell_of_heap hc1 rfl, S.datas, cell_of_heap hc1 rfl, ?_⟩
  refine CallV.mk ent_encode_Encode (Encode_spec (hr.mod0 hm1) h.tabs hm hw) ?_
  rintro e W2 ⟨t, rfl, hm2⟩
  refine ⟨_, rfl, t, encR m, rfl, Br.ne (fun hne => ⟨?_, hm1.trans0 hm2⟩) (fun h0 => ?_)⟩
  · unfold checkM; rw [if_pos hne]
  · have he := encOk_of h0
    have hE : checkM m = if outerM m then (if (List.range m.codes.length).all (fun i => (typedM m i).isSome) then 0 else 12) else 12 := by
      unfold checkM; rw [if_neg (by simpa using h0)]
    have h2 := hm2.heap hc1 (fun h => h)
    have hm02 := hm1.trans0 hm2
    refine ⟨S.types, cell_of_heap h2 rfl, S.imports, cell_of_heap h2 rfl, S.funcs, cell_of_heap h2 rfl, S.tables, cell_of_heap h2 rfl, S.mems, cell_of_heap h2 rfl, S.globals, cell_of_heap h2 rfl, S.exports, cell_of_heap h2 rfl, m.start, cell_of_heap h2 rfl, S.elems, cell_of_heap h2 rfl, S.codes, cell_of_heap h2 rfl, S.datas, cell_of_heap h2 rfl, ?_⟩
    refine CallV.mk ent_valid_outer (outer_spec (hr.mod0 hm02) hm hw he) ?_
    rintro e W3 ⟨rfl, hm3⟩
    have hm03 := hm02.trans0 hm3
    have h3 := hm3.heap h2 (fun h => h)
    refine ⟨_, rfl, _, rfl, Br.mk (fun hb => ⟨?_, hm03⟩) (fun hb => ?_)⟩
    · rw [hE, if_neg (by simpa using hb)]
    · rw [if_pos (by simpa using hb)] at hE
      refine ⟨S.codes, cell_of_heap h3 rfl, ?_⟩
      intro L hL
      have key : ∀ (d k : Nat) (W4 : World), d = m.codes.length - k → k ≤ m.codes.length → (List.range k).all (fun i => (typedM m i).isSome) = true → Mod NoB W3 W4 → L (k : Int) W4 := by
        intro d
        induction d with
        | zero =>
          intro k W4 hd hk hall hm4
          have hk : k = m.codes.length := by omega
          rw [hk] at hall
          refine hL _ _ (Br.dec (fun h => by rw [hm.codes.1] at h; omega) (fun _ => ⟨?_, hm03.trans0 hm4⟩))
          rw [hE, if_pos hall]
        | succ d ih =>
          intro k W4 hd hk hall hm4
          have hlt : k < m.codes.length := by omega
          have h4 := hm4.heap h3 (fun h => h)
          have hm04 := hm03.trans0 hm4
          refine hL _ _ (Br.dec (fun _ => ?_) (fun hge => absurd (by rw [hm.codes.1]; omega) hge))
          refine ⟨S.types, cell_of_heap h4 rfl, S.imports, cell_of_heap h4 rfl, S.funcs, cell_of_heap h4 rfl, S.tables, cell_of_heap h4 rfl, S.mems, cell_of_heap h4 rfl, S.globals, cell_of_heap h4 rfl, S.exports, cell_of_heap h4 rfl, m.start, cell_of_heap h4 rfl, S.elems, cell_of_heap h4 rfl, S.codes, cell_of_heap h4 rfl, S.datas, cell_of_heap h4 rfl, ?_⟩
          refine CallV.mk ent_valid_typed (typed_spec (hr.mod0 hm04) hm hw he.ty hlt (he.code h.small hlt)) ?_
          rintro e W5 ⟨hm5, hres⟩
          cases ht : typedM m k with
          | none =>
            rw [ht] at hres
            refine ⟨_, hres, _, _, rfl, Br.t ⟨?_, hm04.trans0 hm5⟩⟩
            have : (List.range m.codes.length).all (fun i => (typedM m i).isSome) = false := by
              rw [List.all_eq_false]
              exact ⟨k, by rw [List.mem_range]; exact hlt, by rw [ht]; simp⟩
            rw [hE, if_neg (by rw [this]; simp)]
          | some l =>
            rw [ht] at hres
            obtain ⟨s, he1, _, _⟩ := hres
            refine ⟨_, he1, _, _, rfl, Br.f ?_⟩
            rw [wrap_id (by omega) (by omega)]
            refine ih (k + 1) _ (by omega) hlt ?_ (hm4.trans0 hm5)
            rw [range_all, hall, ht]; rfl
      exact key _ 0 W3 rfl (by omega) rfl (Mod.refl _ _)
def MarksPost (W : World) (p : List Mark × Int) : Ending → World → Prop := fun e W' =>
  ∃ s : Sl, e = .returned (.tuple #[s.v, .int .i64 p.2]) ∧ Own W' ty_Mark 3 s (p.1.flatMap markC) ∧ (∀ b, s.isB b → W.heap.size ≤ b) ∧ Mod NoB W W'
theorem Marks_spec {W : World} {r : Rd} (hr : Sub r W) {S : MSl} {m : Module} (h : ModAt r S m) (f : Int) :
    Calls Tryd.prog f_valid_Marks #[ModV S m, .int .i64 f] W (MarksPost W (marksM m f)) := by
  have hm := h.rd
  have hw := h.room
  have wc := hw.codes
  refine of_valid_Marks _ _ _ _ _ _ _ _ _ _ _ _ _ _ ?_
  unfold V_valid_Marks
  refine Na.mk fun b1 W1 hb1 hm1 hz1 hc1 => ?_
  refine ⟨S.types, cell_of_heap hc1 rfl, S.imports, cell_of_heap hc1 rfl, S.funcs, cell_of_heap hc1 rfl, S.tables, cell_of_heap hc1 rfl, S.mems, cell_of_heap hc1 rfl, S.globals, cell_of_heap hc1 rfl, S.exports, cell_of_heap hc1 rfl, m.start, cell_of_heap hc1 rfl, S.elems, cell_of_heap hc1 rfl, S.codes, cell_of_heap hc1 rfl, S.datas, cell_of_heap hc1 rfl, ?_⟩
  refine CallV.mk ent_valid_Check (Check_spec (hr.mod0 hm1) h) ?_
  rintro e W2 ⟨rfl, hm2⟩
  have hm02 := hm1.trans0 hm2
  have h2 := hm2.heap hc1 (fun h => h)
  refine ⟨_, rfl, checkM m, rfl, S.codes, fun _ => cell_of_heap h2 rfl, ?_⟩
  rw [hm.codes.1]
  have hiff : (((checkM m == 1) || (decide (f < 0))) || (decide (f ≥ (m.codes.length : Int)))) = true ↔ (checkM m = 1 ∨ f < 0 ∨ f ≥ m.codes.length) := by
    rw [Bool.or_eq_true, Bool.or_eq_true, decide_eq_true_eq, decide_eq_true_eq, beq_iff_eq, or_assoc]
  refine Br.mk (fun hb => ?_) (fun hb => ?_)
  · have hp := hiff.1 hb
    have e1 : marksM m f = ([], 1) := by unfold marksM; rw [if_pos hp]
    rw [e1]
    exact ⟨⟨none, 0, 0⟩, rfl, Own.nil _ _ _, fun b x => (nil_notB b x).elim, hm02⟩
  · have hp : ¬ (checkM m = 1 ∨ f < 0 ∨ f ≥ m.codes.length) := mt hiff.2 (by rw [hb]; simp)
    refine Br.ne (fun hne => ?_) (fun h0 => ?_)
    · have e1 : marksM m f = ([], checkM m) := by unfold marksM; rw [if_neg hp, if_pos hne]
      rw [e1]
      exact ⟨⟨none, 0, 0⟩, rfl, Own.nil _ _ _, fun b x => (nil_notB b x).elim, hm02⟩
    · have e1 : marksM m f = ((typedM m f.toNat).getD [], 0) := by unfold marksM; rw [if_neg hp, if_neg (by simpa using h0)]
      rw [e1]
      have henc : encR m = 0 := by
        unfold checkM at h0
        split at h0
        · exact absurd h0 (by assumption)
        · rename_i hh; simpa using hh
      have he := encOk_of henc
      have hlt : f.toNat < m.codes.length := by omega
      refine ⟨S.types, cell_of_heap h2 rfl, S.imports, cell_of_heap h2 rfl, S.funcs, cell_of_heap h2 rfl, S.tables, cell_of_heap h2 rfl, S.mems, cell_of_heap h2 rfl, S.globals, cell_of_heap h2 rfl, S.exports, cell_of_heap h2 rfl, m.start, cell_of_heap h2 rfl, S.elems, cell_of_heap h2 rfl, S.codes, cell_of_heap h2 rfl, S.datas, cell_of_heap h2 rfl, ?_⟩
      have hf : f = ((f.toNat : Nat) : Int) := by omega
      rw [hf]
      have hz2 := hm02.size
      refine CallV.mk ent_valid_typed (typed_spec (hr.mod0 hm02) hm hw he.ty hlt (he.code h.small hlt)) ?_
      rintro e W5 ⟨hm5, hres⟩
      rw [Int.toNat_natCast]
      cases ht : typedM m f.toNat with
      | none =>
        rw [ht] at hres
        exact ⟨_, hres, ⟨none, 0, 0⟩, _, rfl, ⟨none, 0, 0⟩, rfl, Own.nil _ _ _, fun b x => (nil_notB b x).elim, hm02.trans0 hm5⟩
      | some l =>
        rw [ht] at hres
        obtain ⟨s, he1, ho, hfr⟩ := hres
        exact ⟨_, he1, s, _, rfl, s, rfl, ho, fun b x => by have := hfr b x; omega, hm02.trans0 hm5⟩
end Go.Proofs.YtacjnpahlbibhaaDoor
end

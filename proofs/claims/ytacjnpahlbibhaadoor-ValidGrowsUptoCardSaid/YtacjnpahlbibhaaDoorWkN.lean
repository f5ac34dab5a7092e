import Derived.Test.YtacjnpahlbibhaaDoorMdlE
section
/- Plain functions: the walker through a body. No program in sight. -/
set_option linter.unusedVariables false
namespace Go.Proofs.YtacjnpahlbibhaaDoor

structure Blk where
  op : Int
  height : Nat
  ins : List Int
  outs : List Int
  dead : Bool
  live : Bool
structure Wk where
  stack : List Int
  blocks : List Blk
  bad : Bool
/-- Every block's height is at most the next one's, and the stack's. -/
structure Wk.Ok (k : Wk) : Prop where
  ne : k.blocks ≠ []
  up : k.blocks.Pairwise (fun a b => a.height ≤ b.height)
  le : ∀ b ∈ k.blocks, b.height ≤ k.stack.length
def Wk.must (k : Wk) (ok : Bool) : Wk := { k with bad := k.bad || !ok }
def Wk.take (k : Wk) (want : Int) : Int × Wk :=
  match k.blocks.getLast? with
  | none => (want, k)
  | some b =>
    if k.stack.length = b.height then (want, k.must b.dead)
    else
      (if (k.stack.getLast?.getD 0) = 0 then want else k.stack.getLast?.getD 0,
        Wk.must { k with stack := k.stack.dropLast } ((((k.stack.getLast?.getD 0) == want) || ((k.stack.getLast?.getD 0) == 0)) || (want == 0)))
def Wk.takeR (k : Wk) : List Int → Wk
  | [] => k
  | t :: r => (k.take t).2.takeR r
/-- Types are taken, the last first. -/
def Wk.takes (k : Wk) (types : List Int) : Wk := k.takeR types.reverse
def Wk.gives (k : Wk) (types : List Int) : Wk := { k with stack := k.stack ++ types }
def Wk.die (k : Wk) : Wk :=
  match k.blocks.getLast? with
  | none => k
  | some b => { k with stack := k.stack.take b.height, blocks := k.blocks.dropLast ++ [{ b with dead := true }] }
def Wk.liveNow (k : Wk) : Bool := match k.blocks.getLast? with | none => true | some b => b.live && !b.dead
def Wk.open (k : Wk) (op : Int) (ins outs : List Int) : Wk := { k with blocks := k.blocks ++ [⟨op, k.stack.length, ins, outs, false, k.liveNow⟩] }
def Wk.label (k : Wk) (l : Int) : List Int × Wk :=
  if l ≥ k.blocks.length then ([], { k with bad := true })
  else match k.blocks[k.blocks.length - 1 - l.toNat]? with
    | none => ([], k)
    | some b => (if b.op = 3 then b.ins else b.outs, k)
def Wk.againR (k : Wk) (was : List Int) : List Int → List Int × Wk
  | [] => (was, k)
  | t :: r => (k.take t).2.againR (was ++ [(k.take t).1]) r
def Wk.again (k : Wk) (types : List Int) : Wk := (k.againR [] types.reverse).2.gives (k.againR [] types.reverse).1.reverse
/-- An else, or an end. -/
def Wk.close (k : Wk) (op : Int) : Wk :=
  match k.blocks.getLast? with
  | none => k
  | some b =>
    let k1 := (k.takes b.outs).must (((k.takes b.outs).stack.length : Int) == b.height)
    if k1.bad then { k1 with blocks := k1.blocks.dropLast ++ [b] }
    else if op = 5 then ((Wk.open { k1 with blocks := k1.blocks.dropLast } 5 b.ins b.outs)).gives b.ins
    else (Wk.must { k1 with blocks := k1.blocks.dropLast } (decide (b.op ≠ 4 ∨ b.ins = b.outs))).gives b.outs

theorem Wk.must_blocks (k : Wk) (ok : Bool) : (k.must ok).blocks = k.blocks ∧ (k.must ok).stack = k.stack := ⟨rfl, rfl⟩
theorem Wk.Ok.must {k : Wk} (h : k.Ok) (ok : Bool) : (k.must ok).Ok := ⟨h.ne, h.up, h.le⟩
theorem Wk.take_blocks (k : Wk) (t : Int) : (k.take t).2.blocks = k.blocks := by
  unfold Wk.take
  split
  · rfl
  · split <;> rfl
theorem Wk.take_len (k : Wk) (t : Int) : (k.take t).2.stack.length ≤ k.stack.length := by
  unfold Wk.take
  split
  · exact Nat.le_refl _
  · split
    · exact Nat.le_refl _
    · show k.stack.dropLast.length ≤ _; simp
theorem Wk.Ok.last {k : Wk} (h : k.Ok) : ∃ b, k.blocks.getLast? = some b ∧ b ∈ k.blocks ∧ b.height ≤ k.stack.length := by
  have hm := List.getLast_mem h.ne
  exact ⟨_, List.getLast?_eq_some_getLast h.ne, hm, h.le _ hm⟩
/-- Everybody's height is at most the last one's. -/
theorem Wk.Ok.le_last {k : Wk} (h : k.Ok) {b : Blk} (hb : k.blocks.getLast? = some b) : ∀ c ∈ k.blocks, c.height ≤ b.height := by
  intro c hc
  obtain ⟨pre, hpre⟩ := List.getLast?_eq_some_iff.1 hb
  rw [hpre] at hc
  have hup := h.up
  rw [hpre, List.pairwise_append] at hup
  rcases List.mem_append.1 hc with hc | hc
  · exact hup.2.2 c hc b (by simp)
  · simp at hc; subst hc; exact Nat.le_refl _
theorem Wk.Ok.take {k : Wk} (h : k.Ok) (t : Int) : (k.take t).2.Ok := by
  obtain ⟨b, hb, hm, hle⟩ := h.last
  refine ⟨by rw [Wk.take_blocks]; exact h.ne, by rw [Wk.take_blocks]; exact h.up, fun c hc => ?_⟩
  rw [Wk.take_blocks] at hc
  have hc2 := h.le_last hb c hc
  simp only [Wk.take, hb]
  split
  · exact h.le c hc
  · rename_i hne
    show c.height ≤ k.stack.dropLast.length
    rw [List.length_dropLast]; omega
theorem Wk.takeR_blocks (l : List Int) : ∀ k : Wk, (k.takeR l).blocks = k.blocks := by
  induction l with
  | nil => intro k; rfl
  | cons t r ih => intro k; rw [Wk.takeR, ih, Wk.take_blocks]
theorem Wk.takeR_len (l : List Int) : ∀ k : Wk, (k.takeR l).stack.length ≤ k.stack.length := by
  induction l with
  | nil => intro k; exact Nat.le_refl _
  | cons t r ih => intro k; exact Nat.le_trans (ih _) (Wk.take_len k t)
theorem Wk.Ok.takeR (l : List Int) : ∀ {k : Wk}, k.Ok → (k.takeR l).Ok := by
  induction l with
  | nil => intro k h; exact h
  | cons t r ih => intro k h; exact ih (h.take t)
theorem Wk.Ok.takes {k : Wk} (h : k.Ok) (l : List Int) : (k.takes l).Ok := Wk.Ok.takeR _ h
theorem Wk.takes_blocks (k : Wk) (l : List Int) : (k.takes l).blocks = k.blocks := Wk.takeR_blocks _ k
theorem Wk.takes_len (k : Wk) (l : List Int) : (k.takes l).stack.length ≤ k.stack.length := Wk.takeR_len _ k
theorem Wk.Ok.gives {k : Wk} (h : k.Ok) (l : List Int) : (k.gives l).Ok := ⟨h.ne, h.up, fun b hb => by have := h.le b hb; simp [Wk.gives]; omega⟩
theorem Wk.Ok.die {k : Wk} (h : k.Ok) : k.die.Ok := by
  obtain ⟨b, hb, hm, hle⟩ := h.last
  have hl := h.le_last hb
  obtain ⟨pre, hpre⟩ := List.getLast?_eq_some_iff.1 hb
  have hup := h.up
  unfold Wk.die
  rw [hb]
  refine ⟨by simp, ?_, fun c hc => ?_⟩
  · show (k.blocks.dropLast ++ [{ b with dead := true }]).Pairwise _
    rw [hpre, List.dropLast_concat]
    rw [hpre, List.pairwise_append] at hup
    rw [List.pairwise_append]
    refine ⟨hup.1, by simp, fun a ha c hc => ?_⟩
    simp at hc; subst hc
    exact hup.2.2 a ha b (by simp)
  · replace hc : c ∈ k.blocks.dropLast ++ [{ b with dead := true }] := hc
    show c.height ≤ (k.stack.take b.height).length
    rw [List.length_take, Nat.min_eq_left hle]
    rcases List.mem_append.1 hc with hc | hc
    · exact hl c (List.dropLast_subset _ hc)
    · simp at hc; subst hc; exact Nat.le_refl _
theorem Wk.die_len {k : Wk} : k.die.stack.length ≤ k.stack.length := by
  unfold Wk.die
  split
  · exact Nat.le_refl _
  · show (k.stack.take _).length ≤ _; simp; omega
theorem Wk.die_blen {k : Wk} : k.die.blocks.length = k.blocks.length := by
  unfold Wk.die
  split
  · rfl
  · rename_i b hb
    obtain ⟨pre, hpre⟩ := List.getLast?_eq_some_iff.1 hb
    show (k.blocks.dropLast ++ [_]).length = _
    rw [hpre]; simp
theorem Wk.ok_open {k : Wk} (hup : k.blocks.Pairwise (fun a b => a.height ≤ b.height)) (hle : ∀ b ∈ k.blocks, b.height ≤ k.stack.length) (op : Int) (ins outs : List Int) : (k.open op ins outs).Ok := by
  refine ⟨by simp [Wk.open], ?_, fun c hc => ?_⟩
  · unfold Wk.open
    rw [List.pairwise_append]
    refine ⟨hup, by simp, fun a ha c hc => ?_⟩
    simp at hc; subst hc
    exact hle a ha
  · unfold Wk.open at hc ⊢
    rcases List.mem_append.1 hc with hc | hc
    · exact hle c hc
    · simp at hc; subst hc; exact Nat.le_refl _
theorem Wk.Ok.open {k : Wk} (h : k.Ok) (op : Int) (ins outs : List Int) : (k.open op ins outs).Ok := Wk.ok_open h.up h.le op ins outs
theorem Wk.Ok.bad {k : Wk} (h : k.Ok) (b : Bool) : Wk.Ok { k with bad := b } := ⟨h.ne, h.up, h.le⟩
theorem Wk.label_blocks (k : Wk) (l : Int) : (k.label l).2.blocks = k.blocks ∧ (k.label l).2.stack = k.stack := by
  unfold Wk.label
  split
  · exact ⟨rfl, rfl⟩
  · split <;> exact ⟨rfl, rfl⟩
theorem Wk.Ok.label {k : Wk} (h : k.Ok) (l : Int) : (k.label l).2.Ok := by
  obtain ⟨h1, h2⟩ := Wk.label_blocks k l
  exact ⟨by rw [h1]; exact h.ne, by rw [h1]; exact h.up, by rw [h1, h2]; exact h.le⟩
theorem Wk.againR_ok (l : List Int) : ∀ (k : Wk) (was : List Int), k.Ok → (k.againR was l).2.Ok ∧ (k.againR was l).2.stack.length ≤ k.stack.length ∧ (k.againR was l).1.length = was.length + l.length ∧ (k.againR was l).2.blocks = k.blocks := by
  induction l with
  | nil => intro k was h; exact ⟨h, Nat.le_refl _, rfl, rfl⟩
  | cons t r ih =>
    intro k was h
    obtain ⟨h1, h2, h3, h4⟩ := ih (k.take t).2 (was ++ [(k.take t).1]) (h.take t)
    refine ⟨h1, Nat.le_trans h2 (Wk.take_len k t), ?_, ?_⟩
    · rw [Wk.againR, h3]; simp; omega
    · rw [Wk.againR, h4, Wk.take_blocks]
theorem Wk.Ok.again {k : Wk} (h : k.Ok) (l : List Int) : (k.again l).Ok := (Wk.againR_ok l.reverse k [] h).1.gives _
theorem Wk.again_len {k : Wk} (h : k.Ok) (l : List Int) : (k.again l).stack.length ≤ k.stack.length + l.length := by
  obtain ⟨h1, h2, h3, h4⟩ := Wk.againR_ok l.reverse k [] h
  unfold Wk.again Wk.gives
  simp only [List.length_append, List.length_reverse, h3, List.length_nil]; omega
theorem Wk.again_blocks {k : Wk} (h : k.Ok) (l : List Int) : (k.again l).blocks = k.blocks := (Wk.againR_ok l.reverse k [] h).2.2.2
end Go.Proofs.YtacjnpahlbibhaaDoor
end
section
/- Plain functions: the walker's steps. No program in sight. -/
set_option linter.unusedVariables false
namespace Go.Proofs.YtacjnpahlbibhaaDoor

def kindOf (m : Module) (k : Int) : Sig × Bool := if h : 0 ≤ k ∧ k.toNat < m.types.length then (m.types[k.toNat]'h.2, true) else (⟨[], []⟩, false)
/-- A function's type's number. -/
def kidx (m : Module) (f : Int) : Int :=
  if h : 0 ≤ f ∧ f.toNat < m.imports.length then (m.imports[f.toNat]'h.2).type
  else if h : (m.imports.length : Int) ≤ f ∧ (f - m.imports.length).toNat < m.funcs.length then m.funcs[(f - m.imports.length).toNat]'h.2 else -1
def sigOf (m : Module) (f : Int) : Sig × Bool := kindOf m (kidx m f)
def Wk.sig (m : Module) (k : Wk) (a : Int) : Sig × Wk :=
  if a ≥ 0 then ((kindOf m a).1, k.must (kindOf m a).2) else if a = -64 then (⟨[], []⟩, k) else (⟨[], [a + 128]⟩, k)
def varOf (m : Module) (lc : List Int) (op a : Int) : Int × Bool :=
  if op ≤ 34 then (match lc[a.toNat]? with | some t => (t, true) | none => (0, false))
  else (match m.globals[a.toNat]? with | some g => (g.type, op == 35 || g.chg) | none => (0, false))
def Wk.varIn (m : Module) (lc : List Int) (k : Wk) (op a : Int) : Wk :=
  let t := varOf m lc op a
  let k1 := k.must t.2
  let k2 := if op ≠ 32 ∧ op ≠ 35 then (k1.take t.1).2 else k1
  if op ≠ 33 ∧ op ≠ 36 then k2.gives [t.1] else k2
def Wk.fields (m : Module) (k : Wk) (x : Instr) (form limit : Int) : Wk :=
  if form = 7 ∨ form = 8 ∨ form = 14 then (k.must (decide ((m.mems.length : Int) > 0) && decide (x.a ≤ limit))).must ((form != 8) || decide (x.lo < Int.fdiv 16 (2 ^ (min limit.toNat 64))))
  else if form = 13 then k.must (decide (x.a < limit))
  else if form = 12 then (joinB x.lo x.hi).foldl (fun k c => k.must (decide (c < 32))) k
  else k
def Wk.tableGo (k : Wk) (n : Int) : List Int → Wk
  | [] => k
  | l :: r => (((k.label l).2.must ((((k.label l).1.length : Nat) : Int) == n)).again (k.label l).1).tableGo n r
def Wk.jump (m : Module) (lc : List Int) (k : Wk) (x : Instr) : Wk :=
  if x.op = 0 then k.die
  else if x.op = 12 then ((k.label x.a).2.takes (k.label x.a).1).die
  else if x.op = 13 then (((k.take 127).2.label x.a).2.takes ((k.take 127).2.label x.a).1).gives ((k.take 127).2.label x.a).1
  else if x.op = 14 then
    ((((k.take 127).2.label x.a).2.tableGo ((k.take 127).2.label x.a).1.length x.l).takes ((k.take 127).2.label x.a).1).die
  else if x.op = 15 then (k.takes (match k.blocks.head? with | some b => b.outs | none => [])).die
  else k.varIn m lc x.op x.a
def Wk.selIn (k : Wk) : Wk :=
  let k1 := (k.take 127).2
  let a := k1.take 0
  let b := a.2.take a.1
  b.2.gives [b.1]
def Wk.step (m : Module) (lc : List Int) (i : Info) (k : Wk) (x : Instr) : Wk :=
  if i.plain then ((k.fields m x i.form i.limit).takes i.ins).gives i.outs
  else if x.op = 2 ∨ x.op = 3 ∨ x.op = 4 then
    let k1 := if x.op = 4 then (k.take 127).2 else k
    let s := k1.sig m x.a
    ((s.2.takes s.1.ins).open x.op s.1.ins s.1.outs).gives s.1.ins
  else if x.op = 5 ∨ x.op = 11 then k.close x.op
  else if x.op = 26 then (k.take 0).2
  else if x.op = 27 then k.selIn
  else if x.op = 16 then ((k.must (sigOf m x.a).2).takes (sigOf m x.a).1.ins).gives (sigOf m x.a).1.outs
  else if x.op = 17 then
    (((k.must (((kindOf m x.a).2 && decide ((m.tables.length : Int) > 0)) && (x.b == 0))).take 127).2.takes (kindOf m x.a).1.ins).gives (kindOf m x.a).1.outs
  else k.jump m lc x
end Go.Proofs.YtacjnpahlbibhaaDoor
end

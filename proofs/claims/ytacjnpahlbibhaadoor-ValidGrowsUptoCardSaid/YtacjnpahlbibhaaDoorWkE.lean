import Derived.Test.YtacjnpahlbibhaaDoorValJ
import Derived.Test.YtacjnpahlbibhaaDoorWkN
section
/- The walker in memory; contracts: must, top, take, takes, gives. -/
set_option linter.unusedVariables false
set_option linter.unusedSimpArgs false
set_option maxRecDepth 100000
namespace Go.Proofs.YtacjnpahlbibhaaDoor
open Go Go.RowKit

abbrev BlkM := Blk × Sl × Sl
def blkC (x : BlkM) : List Value := [.int .i64 x.1.op, .int .i64 x.1.height, x.2.1.v, x.2.2.v, .bool x.1.dead, .bool x.1.live]
theorem blkC_len (x : BlkM) : (blkC x).length = 6 := rfl
theorem blkC_one (x : BlkM) : ∀ u ∈ blkC x, u.oneCell' = true := by
  intro u hu; simp [blkC] at hu
  rcases hu with rfl | rfl | rfl | rfl | rfl | rfl <;> rfl
/-- Blocks of 'F' and of 'X'. -/
abbrev FX (F X : Nat → Prop) : Nat → Prop := fun b => F b ∨ X b
/-- The blocks 'F' hold a walker; all that it refers to is read outside them, and outside 'X'. -/
structure WalkIn (w : World) (F X : Nat → Prop) (S : MSl) (m : Module) (lc : List Int) (wb : Nat) (sl ss sb : Sl) (bs : List BlkM) (k : Wk) : Prop where
  blk : w.heap[wb]? = some (.cells #[S.types.v, S.imports.v, S.funcs.v, S.tables.v, S.mems.v, S.globals.v, S.exports.v, .int .i64 m.start, S.elems.v, S.codes.v, S.datas.v, sl.v, ss.v, sb.v, .bool k.bad] ty_valid_walker (0, 0))
  mr : ModR (offS w (FX F X)) S m
  lcs : Ints (offS w (FX F X)) sl lc
  stk : Own w ty_int 1 ss (iv k.stack)
  bls : Own w ty_valid_block 6 sb (bs.flatMap blkC)
  bk : bs.map (·.1) = k.blocks
  io : ∀ b ∈ bs, Ints (offS w (FX F X)) b.2.1 b.1.ins ∧ Ints (offS w (FX F X)) b.2.2 b.1.outs
  nss : ¬ ss.isB wb
  nsb : ¬ sb.isB wb
  ndd : ∀ b, ss.isB b → ¬ sb.isB b
  fw : F wb
  fss : ∀ b, ss.isB b → F b
  fsb : ∀ b, sb.isB b → F b
  lt : ∀ b, F b → b < w.heap.size
def WalkAt (w : World) (q : Addr) (F X : Nat → Prop) (S : MSl) (m : Module) (lc : List Int) (k : Wk) : Prop := ∃ wb sl ss sb bs, q = ⟨wb, 0, none⟩ ∧ WalkIn w F X S m lc wb sl ss sb bs k
def WalkPost (W : World) (q : Addr) (F X : Nat → Prop) (S : MSl) (m : Module) (lc : List Int) (v : Value) (k' : Wk) : Ending → World → Prop :=
  fun e W' => e = .returned v ∧ ∃ F', WalkAt W' q F' X S m lc k' ∧ Mod F W W' ∧ Grows F W F'
theorem FX.mod {F X : Nat → Prop} {W W' : World} (m : Mod F W W') : Mod (FX F X) W W' := m.mono (fun _ _ h => .inl h)
theorem FX.grows {F F' X : Nat → Prop} {W : World} (g : Grows F W F') : Grows (FX F X) W (FX F' X) := fun i h => h.elim (fun x => (g i x).imp .inl id) (fun x => .inl (.inr x))
theorem offS_step {W W' : World} {F F' X : Nat → Prop} (m : Mod F W W') (g : Grows F W F') : Le (offS W (FX F X)) (offS W' (FX F' X)) := ((Rds.all W (FX F X)).step (FX.mod m) (FX.grows g)).le
theorem offS_mod0 {W W' : World} {F : Nat → Prop} (m : Mod NoB W W') : Le (offS W F) (offS W' F) := (Rds.all W F).into m
section
variable {W : World} {F X : Nat → Prop} {S : MSl} {m : Module} {lc : List Int} {wb : Nat} {sl ss sb : Sl} {bs : List BlkM} {k : Wk}
theorem WalkIn.at (h : WalkIn W F X S m lc wb sl ss sb bs k) : WalkAt W ⟨wb, 0, none⟩ F X S m lc k := ⟨wb, sl, ss, sb, bs, rfl, h⟩
theorem WalkIn.mod0 {W' : World} (h : WalkIn W F X S m lc wb sl ss sb bs k) (m0 : Mod NoB W W') : WalkIn W' F X S m lc wb sl ss sb bs k where
  blk := m0.heap h.blk (fun h => h)
  mr := ModR.mono (offS_mod0 m0) h.mr
  lcs := Ints.mono h.lcs (offS_mod0 m0)
  stk := h.stk.mod0 m0
  bls := h.bls.mod0 m0
  bk := h.bk
  io := fun b hb => ⟨Ints.mono (h.io b hb).1 (offS_mod0 m0), Ints.mono (h.io b hb).2 (offS_mod0 m0)⟩
  nss := h.nss
  nsb := h.nsb
  ndd := h.ndd
  fw := h.fw
  fss := h.fss
  fsb := h.fsb
  lt := fun b hb => Nat.lt_of_lt_of_le (h.lt b hb) m0.size
theorem WalkIn.blen (h : WalkIn W F X S m lc wb sl ss sb bs k) : bs.length = k.blocks.length := by rw [← h.bk, List.length_map]
theorem WalkIn.sblen (h : WalkIn W F X S m lc wb sl ss sb bs k) : sb.len = k.blocks.length := by
  have := h.bls.1
  rw [flat_len blkC_len] at this
  rw [← h.blen]; omega
theorem WalkIn.slen (h : WalkIn W F X S m lc wb sl ss sb bs k) : ss.len = k.stack.length := by have := h.stk.1; simpa using this.symm
theorem WalkIn.new (h : WalkIn W F X S m lc wb sl ss sb bs k) {b : Nat} (hb : W.heap.size ≤ b) : ¬ F b := fun hF => by have := h.lt b hF; omega
/-- One of its blocks, as it stands. -/
theorem WalkIn.bat (h : WalkIn W F X S m lc wb sl ss sb bs k) {i : Nat} {x : BlkM} (hx : bs[i]? = some x) : ∃ g, sb.a = some ⟨g, 0, none⟩ ∧ F g ∧ ∀ j v, (blkC x)[j]? = some v → W.cell? (((⟨g, 0, none⟩ : Addr).add (i * 6)).add j) = some v := by
  have hlt : i < bs.length := by
    rcases Nat.lt_or_ge i bs.length with h' | h'
    · exact h'
    · rw [List.getElem?_eq_none h'] at hx; cases hx
  rcases h.bls.2 with he | ⟨g, cur, fr, ha, _⟩
  · have := h.sblen; rw [he] at this; simp only at this; have := h.blen; omega
  · refine ⟨g, ha, h.fsb g ⟨_, ha, rfl⟩, fun j v hv => ?_⟩
    have hj : j < 6 := by
      rcases Nat.lt_or_ge j 6 with h' | h'
      · exact h'
      · rw [List.getElem?_eq_none (by rw [blkC_len]; exact h')] at hv; cases hv
    obtain ⟨q', hq', hc⟩ := h.bls.cell (i := i * 6 + j) (v := v) (by rw [flatMap_at blkC_len hx hj]; exact hv)
    rw [ha] at hq'; cases hq'
    rw [add_add]; exact hc
theorem WalkIn.setBad (h : WalkIn W F X S m lc wb sl ss sb bs k) {b : Bool} {K : World → Prop}
    (hk : ∀ w', WalkIn w' F X S m lc wb sl ss sb bs { k with bad := b } → Mod F W w' → w'.heap.size = W.heap.size → K w') : stC W ((⟨wb, 0, none⟩ : Addr).add 14) [.bool b] 0 K := by
  refine stC_at (b := wb) (o := 14) (by rw [add_mk]) h.blk (by simp) (by simp [Value.oneCell']) (fun w' h1 hm hsz => hk w' ?_ (hm.mono (fun i _ e => e ▸ h.fw)) hsz)
  have hle : Le (offS W (FX F X)) (offS w' (FX F X)) := offS_step (X := X) (hm.mono (fun i _ e => e ▸ h.fw)) (Grows.refl _ _)
  exact {
    blk := h1
    mr := ModR.mono hle h.mr
    lcs := Ints.mono h.lcs hle
    stk := h.stk.mod hm (fun b hb e => h.nss (e ▸ hb))
    bls := h.bls.mod hm (fun b hb e => h.nsb (e ▸ hb))
    bk := h.bk
    io := fun b hb => ⟨Ints.mono (h.io b hb).1 hle, Ints.mono (h.io b hb).2 hle⟩
    nss := h.nss
    nsb := h.nsb
    ndd := h.ndd
    fw := h.fw
    fss := h.fss
    fsb := h.fsb
    lt := fun b hb => Nat.lt_of_lt_of_le (h.lt b hb) hm.size }
/-- Another stack. -/
theorem WalkIn.setStack (h : WalkIn W F X S m lc wb sl ss sb bs k) {W1 : World} {ss' : Sl} {st : List Int} (ho : Own W1 ty_int 1 ss' (iv st)) (hm : Mod ss.isB W W1) (hb : ∀ b, ss'.isB b → ss.isB b ∨ W.heap.size ≤ b) {K : World → Prop}
    (hk : ∀ w' F', WalkIn w' F' X S m lc wb sl ss' sb bs { k with stack := st } → Mod F W w' → Grows F W F' → W1.heap.size = w'.heap.size → K w') : stC W1 ((⟨wb, 0, none⟩ : Addr).add 12) [ss'.v] 0 K := by
  have hw : wb < W.heap.size := h.lt wb h.fw
  have hn : ¬ ss'.isB wb := fun x => (hb wb x).elim h.nss (fun y => by omega)
  have hmF : Mod F W W1 := hm.mono (fun i _ x => h.fss i x)
  refine stC_at (b := wb) (o := 12) (by rw [add_mk]) (hm.heap h.blk h.nss) (by simp) (by simp [Value.oneCell', Sl.v]) (fun w' h1 hm2 hsz => ?_)
  have hm2F : Mod F W w' := hmF.trans hm2 (fun i _ e => e ▸ h.fw)
  have hg : Grows F W (fun b => F b ∨ ss'.isB b) := fun b hb' => hb'.elim .inl (fun x => (hb b x).imp (fun y => h.fss b y) id)
  have hle := offS_step (X := X) hm2F hg
  refine hk w' (fun b => F b ∨ ss'.isB b) ?_ hm2F hg hsz.symm
  exact {
    blk := h1
    mr := ModR.mono hle h.mr
    lcs := Ints.mono h.lcs hle
    stk := ho.mod hm2 (fun b hb e => hn (e ▸ hb))
    bls := (h.bls.mod hm (fun b hb e => h.ndd b e hb)).mod hm2 (fun b hb e => h.nsb (e ▸ hb))
    bk := h.bk
    io := fun b hb => ⟨Ints.mono (h.io b hb).1 hle, Ints.mono (h.io b hb).2 hle⟩
    nss := hn
    nsb := h.nsb
    ndd := fun b x y => (hb b x).elim (fun z => h.ndd b z y) (fun z => by have := h.bls.lt y; omega)
    fw := .inl h.fw
    fss := fun b x => .inr x
    fsb := fun b x => .inl (h.fsb b x)
    lt := fun b x => by
      have e1 := hm.size
      have e2 := hm2.size
      rcases x with x | x
      · have := h.lt b x; omega
      · have := ho.lt x; omega }
/-- Other blocks. -/
theorem WalkIn.setBlocks (h : WalkIn W F X S m lc wb sl ss sb bs k) {W1 : World} {sb' : Sl} {bs' : List BlkM} (ho : Own W1 ty_valid_block 6 sb' (bs'.flatMap blkC)) (hm : Mod sb.isB W W1) (hb : ∀ b, sb'.isB b → sb.isB b ∨ W.heap.size ≤ b)
    (hio : ∀ b ∈ bs', Ints (offS W (FX F X)) b.2.1 b.1.ins ∧ Ints (offS W (FX F X)) b.2.2 b.1.outs) {K : World → Prop}
    (hk : ∀ w' F', WalkIn w' F' X S m lc wb sl ss sb' bs' { k with blocks := bs'.map (·.1) } → Mod F W w' → Grows F W F' → W1.heap.size = w'.heap.size → K w') : stC W1 ((⟨wb, 0, none⟩ : Addr).add 13) [sb'.v] 0 K := by
  have hw : wb < W.heap.size := h.lt wb h.fw
  have hn : ¬ sb'.isB wb := fun x => (hb wb x).elim h.nsb (fun y => by omega)
  have hmF : Mod F W W1 := hm.mono (fun i _ x => h.fsb i x)
  refine stC_at (b := wb) (o := 13) (by rw [add_mk]) (hm.heap h.blk h.nsb) (by simp) (by simp [Value.oneCell', Sl.v]) (fun w' h1 hm2 hsz => ?_)
  have hm2F : Mod F W w' := hmF.trans hm2 (fun i _ e => e ▸ h.fw)
  have hg : Grows F W (fun b => F b ∨ sb'.isB b) := fun b hb' => hb'.elim .inl (fun x => (hb b x).imp (fun y => h.fsb b y) id)
  have hle := offS_step (X := X) hm2F hg
  refine hk w' (fun b => F b ∨ sb'.isB b) ?_ hm2F hg hsz.symm
  exact {
    blk := h1
    mr := ModR.mono hle h.mr
    lcs := Ints.mono h.lcs hle
    stk := (h.stk.mod hm (fun b hb e => h.ndd b hb e)).mod hm2 (fun b hb e => h.nss (e ▸ hb))
    bls := ho.mod hm2 (fun b hb e => hn (e ▸ hb))
    bk := rfl
    io := fun b hb => ⟨Ints.mono (hio b hb).1 hle, Ints.mono (hio b hb).2 hle⟩
    nss := h.nss
    nsb := hn
    ndd := fun b x y => (hb b y).elim (fun z => h.ndd b x z) (fun z => by have := h.stk.lt x; omega)
    fw := .inl h.fw
    fss := fun b x => .inl (h.fss b x)
    fsb := fun b x => .inr x
    lt := fun b x => by
      have e1 := hm.size
      have e2 := hm2.size
      rcases x with x | x
      · have := h.lt b x; omega
      · have := ho.lt x; omega }
end
section
variable {W : World} {q : Addr} {F X : Nat → Prop} {S : MSl} {m : Module} {lc : List Int} {k : Wk}
theorem WalkAt.mod0 {W' : World} (h : WalkAt W q F X S m lc k) (m0 : Mod NoB W W') : WalkAt W' q F X S m lc k := by
  obtain ⟨wb, sl, ss, sb, bs, rfl, h⟩ := h; exact (h.mod0 m0).at
theorem WalkAt.new (h : WalkAt W q F X S m lc k) {b : Nat} (hb : W.heap.size ≤ b) : ¬ F b := by
  obtain ⟨wb, sl, ss, sb, bs, rfl, h⟩ := h; exact h.new hb
theorem must_spec' (h : WalkAt W q F X S m lc k) (ok : Bool) : Calls Tryd.prog f_valid_walker_must #[.pointer (some q), .bool ok] W (WalkPost W q F X S m lc (.tuple #[]) (k.must ok)) := by
  refine of_valid_walker_must _ _ _ _ ?_
  unfold V_valid_walker_must
  obtain ⟨wb, sl, ss, sb, bs, rfl, h⟩ := h
  exact ⟨_, rfl, k.bad, by rw [add_mk]; exact cell_of_heap h.blk rfl, _, rfl, h.setBad (fun w' h1 m1 _ => ⟨rfl, F, h1.at, m1, Grows.refl _ _⟩)⟩
/-- What follows a call on the walker. -/
theorem WalkPost.go {v : Value} {k' : Wk} {W0 : World} {F0 : Nat → Prop} {f : FuncId} {args : Array Value} {K : Value → World → Prop} (he : Ent Tryd.prog f) (h : Calls Tryd.prog f args W (WalkPost W q F X S m lc v k')) (hm : Mod F0 W0 W) (hg : Grows F0 W0 F)
    (hk : ∀ W' F', WalkAt W' q F' X S m lc k' → Mod F W W' → Grows F W F' → Mod F0 W0 W' → Grows F0 W0 F' → K v W') : CallV Tryd.prog f args W K := by
  refine CallV.mk he h ?_
  rintro e W' ⟨rfl, F', h1, h2, h3⟩
  exact ⟨_, rfl, hk W' F' h1 h2 h3 (hm.steps h2 hg) (hg.trans h3 hm.size)⟩
end
end Go.Proofs.YtacjnpahlbibhaaDoor
end
section
/- Contracts of the walker: top, take, takes, gives. -/
set_option linter.unusedVariables false
set_option linter.unusedSimpArgs false
set_option maxRecDepth 100000
namespace Go.Proofs.YtacjnpahlbibhaaDoor
open Go Go.RowKit

theorem Own.le_cap {w : World} {e : TypeId} {sz : Nat} {s : Sl} {xs : List Value} (h : Own w e sz s xs) : s.len ≤ s.cap := by
  rcases h.2 with h' | ⟨g, cur, fr, ha, hh, hfr, hlc, _⟩
  · subst h'; exact Nat.le_refl _
  · exact hlc
section
variable {W : World} {q : Addr} {F X : Nat → Prop} {S : MSl} {m : Module} {lc : List Int} {k : Wk} {wb : Nat} {sl ss sb : Sl} {bs : List BlkM}
theorem top_spec (h : WalkIn W F X S m lc wb sl ss sb bs k) (hne : k.blocks ≠ []) (hb : k.blocks.length ≤ big) :
    Calls Tryd.prog f_valid_walker_top #[.pointer (some ⟨wb, 0, none⟩)] W fun e W' => ∃ g, e = .returned (.pointer (some ((⟨g, 0, none⟩ : Addr).add ((k.blocks.length - 1) * 6)))) ∧ sb.a = some ⟨g, 0, none⟩ ∧ Mod NoB W W' ∧ W'.heap = W.heap := by
  refine of_valid_walker_top _ _ _ ?_
  unfold V_valid_walker_top
  refine Dw.mk fun W1 hm1 hh1 => ?_
  have h1 := h.mod0 hm1
  have hpos : 0 < k.blocks.length := List.length_pos_iff.2 hne
  have hl := h.sblen
  have hbl := h.blen
  unfold big at hb
  obtain ⟨g, hg, hF, hc⟩ := h1.bat (i := bs.length - 1) (List.getElem?_eq_getElem (by omega))
  have hw : IntKind.wrap .i64 ((sb.len : Int) - 1) = ((k.blocks.length - 1 : Nat) : Int) := by rw [wrap_id (by omega) (by omega)]; omega
  refine ⟨_, rfl, sb, by rw [add_mk]; exact cell_of_heap h1.blk rfl, _, rfl, sb, by rw [add_mk]; exact cell_of_heap h1.blk rfl, ?_⟩
  rw [hw]
  exact ⟨_, ⟨hg, by omega, by omega⟩, g, by simp, hg, hm1, hh1⟩
/-- The last block, as it stands. -/
theorem WalkIn.lastAt (h : WalkIn W F X S m lc wb sl ss sb bs k) {b : Blk} (hb : k.blocks.getLast? = some b) {g : Nat} (hg : sb.a = some ⟨g, 0, none⟩) :
    ∃ x : BlkM, x.1 = b ∧ x ∈ bs ∧ bs = bs.dropLast ++ [x] ∧ F g ∧ ∀ j v, (blkC x)[j]? = some v → W.cell? (((⟨g, 0, none⟩ : Addr).add ((k.blocks.length - 1) * 6)).add j) = some v := by
  have hbl := h.blen
  have hne : bs ≠ [] := by
    intro e
    rw [← h.bk, e] at hb; simp at hb
  have hx : (bs.getLast hne).1 = b := by
    rw [← h.bk, List.getLast?_map, List.getLast?_eq_some_getLast hne] at hb
    simpa using hb
  obtain ⟨g', hg', hF, hc⟩ := h.bat (i := bs.length - 1) (x := bs.getLast hne) (by rw [← List.getLast?_eq_getElem?]; exact List.getLast?_eq_some_getLast hne)
  rw [hg] at hg'; cases hg'
  exact ⟨_, hx, List.getLast_mem hne, (List.dropLast_concat_getLast hne).symm, hF, fun j v hv => by rw [← hbl]; exact hc j v hv⟩
theorem take_spec (h : WalkAt W q F X S m lc k) (hk : k.Ok) (hb : k.blocks.length ≤ big) (hs : k.stack.length ≤ big) (t : Int) :
    Calls Tryd.prog f_valid_walker_take #[.pointer (some q), .int .i64 t] W (WalkPost W q F X S m lc (.int .i64 (k.take t).1) (k.take t).2) := by
  refine of_valid_walker_take _ _ _ _ ?_
  unfold V_valid_walker_take
  obtain ⟨wb, sl, ss, sb, bs, rfl, h⟩ := h
  obtain ⟨b, hlast, hbm, hble⟩ := hk.last
  unfold big at hs
  refine CallV.mk ent_valid_walker_top (top_spec h hk.ne hb) ?_
  rintro e W1 ⟨g, rfl, hg, hm1, hh1⟩
  refine ⟨_, rfl, _, rfl, ?_⟩
  refine Dw.mk fun W2 hm2 hh2 => ?_
  have hm02 := hm1.trans0 hm2
  have h2 := h.mod0 hm02
  obtain ⟨x, rfl, hxm, hbs, hF, hc⟩ := h2.lastAt hlast hg
  have hsl := h.slen
  refine ⟨_, rfl, ss, by rw [add_mk]; exact cell_of_heap h2.blk rfl, _, rfl, _, hc 1 _ rfl, ?_⟩
  rw [hsl]
  refine Br.eq (fun heq => ?_) (fun hne => ?_)
  · have heq : k.stack.length = x.1.height := by omega
    have e1 : k.take t = (t, k.must x.1.dead) := by simp only [Wk.take, hlast]; rw [if_pos heq]
    refine ⟨_, rfl, x.1.dead, hc 4 _ rfl, ?_⟩
    refine WalkPost.go ent_valid_walker_must (must_spec' h2.at _) (Mod.of0 hm02) (fun i hi => .inl hi) (fun W3 F3 h3 _ _ m3 g3 => ⟨rfl, ?_⟩)
    rw [e1]
    exact ⟨rfl, F3, h3, m3, g3⟩
  · have hne : k.stack.length ≠ x.1.height := by omega
    have hpos : 0 < k.stack.length := by omega
    have e1 : k.take t = (if (k.stack.getLast?.getD 0) = 0 then t else k.stack.getLast?.getD 0, Wk.must { k with stack := k.stack.dropLast } ((((k.stack.getLast?.getD 0) == t) || ((k.stack.getLast?.getD 0) == 0)) || (t == 0))) := by
      simp only [Wk.take, hlast]; rw [if_neg hne]
    have elast : k.stack.getLast?.getD 0 = k.stack[k.stack.length - 1] := by rw [List.getLast?_eq_getElem?, List.getElem?_eq_getElem (by omega)]; rfl
    rw [elast] at e1
    refine Dw.mk fun W4 hm4 hh4 => ?_
    have hm04 := hm02.trans0 hm4
    have h4 := h.mod0 hm04
    have hw : IntKind.wrap .i64 ((k.stack.length : Int) - 1) = ((k.stack.length - 1 : Nat) : Int) := by rw [wrap_id (by omega) (by omega)]; omega
    obtain ⟨p, hp, hpc⟩ := h4.stk.intsAll.get (i := k.stack.length - 1) (by omega)
    refine ⟨_, rfl, ss, by rw [add_mk]; exact cell_of_heap h4.blk rfl, _, rfl, ss, by rw [add_mk]; exact cell_of_heap h4.blk rfl, ?_⟩
    rw [hsl, hw]
    refine ⟨p, ⟨hp, by omega, by omega⟩, _, hpc, ?_⟩
    refine Dw.mk fun W5 hm5 hh5 => ?_
    have hm05 := hm04.trans0 hm5
    have h5 := h.mod0 hm05
    refine ⟨_, rfl, ss, by rw [add_mk]; exact cell_of_heap h5.blk rfl, _, rfl, ss, by rw [add_mk]; exact cell_of_heap h5.blk rfl, ?_⟩
    have hcap := h.stk.le_cap
    rw [hsl, hw]
    refine ⟨⟨by omega, by omega⟩, _, rfl, ?_⟩
    rw [resl]
    have hcut := h5.stk.cut (n := k.stack.length - 1) (by omega)
    have ecut : (iv k.stack).take ((k.stack.length - 1) * 1) = iv k.stack.dropLast := by
      rw [Nat.mul_one, List.dropLast_eq_take]; unfold iv; rw [List.map_take]
    rw [ecut] at hcut
    refine h5.setStack (ss' := ⟨ss.a, k.stack.length - 1, ss.cap⟩) hcut (Mod.refl _ _) (fun b hb => .inl hb) (fun W6 F6 h6 m6 g6 _ => ?_)
    refine WalkPost.go ent_valid_walker_must (must_spec' h6.at _) ((Mod.of0 hm05).transS m6) (fun i hi => (g6 i hi).imp id (fun y => Nat.le_trans hm05.size y)) (fun W7 F7 h7 _ _ m7 g7 => ⟨rfl, ?_⟩)
    rw [e1]
    refine Br.eq (fun h0 => ?_) (fun h0 => ?_)
    · rw [if_pos h0]; exact ⟨rfl, F7, h7, m7, g7⟩
    · rw [if_neg h0]; exact ⟨rfl, F7, h7, m7, g7⟩
end
end Go.Proofs.YtacjnpahlbibhaaDoor
end
section
/- Contracts of the walker: takes, gives, die, open, label. -/
set_option linter.unusedVariables false
set_option linter.unusedSimpArgs false
set_option maxRecDepth 100000
namespace Go.Proofs.YtacjnpahlbibhaaDoor
open Go Go.RowKit

section
variable {W : World} {q : Addr} {F X : Nat → Prop} {S : MSl} {m : Module} {lc : List Int} {k : Wk} {wb : Nat} {sl ss sb : Sl} {bs : List BlkM}
theorem takes_spec (h : WalkAt W q F X S m lc k) (hk : k.Ok) (hb : k.blocks.length ≤ big) (hs : k.stack.length ≤ big) {s : Sl} {xs : List Int} (hx : Ints (offS W (FX F X)) s xs) (hl : xs.length ≤ big) :
    Calls Tryd.prog f_valid_walker_takes #[.pointer (some q), s.v] W (WalkPost W q F X S m lc (.tuple #[]) (k.takes xs)) := by
  refine of_valid_walker_takes _ _ _ _ ?_
  unfold V_valid_walker_takes
  unfold big at hl
  intro L hL
  have key : ∀ (j : Nat) (k1 : Wk) (W1 : World) (F1 : Nat → Prop), j ≤ xs.length → WalkAt W1 q F1 X S m lc k1 → k1.Ok → k1.blocks.length ≤ big → k1.stack.length ≤ big → k.takes xs = k1.takes (xs.take j) → Mod F W W1 → Grows F W F1 → L ((j : Int) - 1) W1 := by
    intro j
    induction j with
    | zero =>
      intro k1 W1 F1 hj h1 o1 b1 s1 he hm hg
      refine hL _ _ (Br.dec (fun h => by omega) (fun _ => ⟨rfl, F1, ?_, hm, hg⟩))
      rw [he]; exact h1
    | succ j ih =>
      intro k1 W1 F1 hj h1 o1 b1 s1 he hm hg
      have hlt : j < xs.length := by omega
      refine hL _ _ (Br.dec (fun _ => ?_) (fun h => absurd (by omega) h))
      have hx1 := Ints.mono hx (offS_step hm hg)
      obtain ⟨p, hp, hc⟩ := hx1.get hlt
      have ej : (((j + 1 : Nat) : Int) - 1) = (j : Int) := by omega
      rw [ej]
      refine ⟨p, ⟨hp, by omega, by rw [hx.1]; omega⟩, _, offS_sub _ _ _ _ hc, ?_⟩
      refine WalkPost.go ent_valid_walker_take (take_spec h1 o1 b1 s1 _) hm hg (fun W2 F2 h2 _ _ m2 g2 => ⟨_, rfl, ?_⟩)
      rw [wrap_id (by omega) (by omega)]
      refine ih _ W2 F2 (by omega) h2 (o1.take _) (by rw [Wk.take_blocks]; exact b1) (Nat.le_trans (Wk.take_len _ _) s1) ?_ m2 g2
      rw [he, List.take_succ_eq_append_getElem hlt]
      unfold Wk.takes
      rw [List.reverse_append]; rfl
  have hlen := hx.1
  rw [wrap_id (by omega) (by omega), hlen]
  exact key xs.length k W F (Nat.le_refl _) h hk hb hs (by rw [List.take_length]) (Mod.refl _ _) (Grows.refl _ _)
theorem gives_spec (h : WalkAt W q F X S m lc k) {r : Rd} (hr : Sub r W) {s : Sl} {xs : List Int} (hx : Ints r s xs) (hl : k.stack.length + xs.length ≤ big) :
    Calls Tryd.prog f_valid_walker_gives #[.pointer (some q), s.v] W (WalkPost W q F X S m lc (.tuple #[]) (k.gives xs)) := by
  refine of_valid_walker_gives _ _ _ _ ?_
  unfold V_valid_walker_gives
  obtain ⟨wb, sl, ss, sb, bs, rfl, h⟩ := h
  refine ⟨_, rfl, ss, by rw [add_mk]; exact cell_of_heap h.blk rfl, ?_⟩
  refine app_ints h.stk (hx.src hr) hl (fun s' W' ho hm hb => ⟨s', rfl, _, rfl, h.setStack ho hm hb (fun w' F' h' m' g' _ => ⟨rfl, F', h'.at, m', g'⟩)⟩)
theorem set_flat {pre : List BlkM} {x : BlkM} {j : Nat} (hj : j < 6) (v : Value) (n : Nat) (hn : n = pre.length) : ((pre ++ [x]).flatMap blkC).set (n * 6 + j) v = pre.flatMap blkC ++ (blkC x).set j v := by
  subst hn
  rw [List.flatMap_append, List.set_append_right _ _ (by rw [flat_len blkC_len]; omega), flat_len blkC_len]
  congr 1
  rw [List.flatMap_cons, List.flatMap_nil, List.append_nil]
  congr 1; omega
/-- The same slice of blocks, with other content. -/
theorem WalkIn.blocksIn (h : WalkIn W F X S m lc wb sl ss sb bs k) {W1 : World} {bs' : List BlkM} (ho : Own W1 ty_valid_block 6 sb (bs'.flatMap blkC)) (hm : Mod sb.isB W W1)
    (hio : ∀ b ∈ bs', Ints (offS W (FX F X)) b.2.1 b.1.ins ∧ Ints (offS W (FX F X)) b.2.2 b.1.outs) : WalkIn W1 F X S m lc wb sl ss sb bs' { k with blocks := bs'.map (·.1) } := by
  have hmF : Mod F W W1 := hm.mono (fun i _ x => h.fsb i x)
  have hle : Le (offS W (FX F X)) (offS W1 (FX F X)) := offS_step (X := X) hmF (Grows.refl _ _)
  exact {
    blk := hm.heap h.blk h.nsb
    mr := ModR.mono hle h.mr
    lcs := Ints.mono h.lcs hle
    stk := h.stk.mod hm (fun b hb e => h.ndd b hb e)
    bls := ho
    bk := rfl
    io := fun b hb => ⟨Ints.mono (hio b hb).1 hle, Ints.mono (hio b hb).2 hle⟩
    nss := h.nss
    nsb := h.nsb
    ndd := h.ndd
    fw := h.fw
    fss := h.fss
    fsb := h.fsb
    lt := fun b hb => Nat.lt_of_lt_of_le (h.lt b hb) hm.size }
theorem die_spec (h : WalkAt W q F X S m lc k) (hk : k.Ok) (hb : k.blocks.length ≤ big) :
    Calls Tryd.prog f_valid_walker_die #[.pointer (some q)] W (WalkPost W q F X S m lc (.tuple #[]) k.die) := by
  refine of_valid_walker_die _ _ _ ?_
  unfold V_valid_walker_die
  obtain ⟨wb, sl, ss, sb, bs, rfl, h⟩ := h
  obtain ⟨b, hlast, hbm, hble⟩ := hk.last
  refine CallV.mk ent_valid_walker_top (top_spec h hk.ne hb) ?_
  rintro e W1 ⟨g, rfl, hg, hm1, hh1⟩
  refine ⟨_, rfl, _, rfl, ?_⟩
  refine Dw.mk fun W2 hm2 hh2 => ?_
  have hm02 := hm1.trans0 hm2
  have h2 := h.mod0 hm02
  obtain ⟨x, rfl, hxm, hbs, hF, hc⟩ := h2.lastAt hlast hg
  have hsl := h.slen
  have hcap := h.stk.le_cap
  refine ⟨_, rfl, ss, by rw [add_mk]; exact cell_of_heap h2.blk rfl, _, rfl, _, hc 1 _ rfl, ⟨by omega, by omega⟩, _, rfl, ?_⟩
  rw [resl]
  have hcut := h2.stk.cut (n := x.1.height) (by omega)
  have ecut : (iv k.stack).take (x.1.height * 1) = iv (k.stack.take x.1.height) := by
    rw [Nat.mul_one]; unfold iv; rw [List.map_take]
  rw [ecut] at hcut
  refine h2.setStack (ss' := ⟨ss.a, x.1.height, ss.cap⟩) hcut (Mod.refl _ _) (fun b hb => .inl hb) (fun W6 F6 h6 m6 g6 _ => ?_)
  refine ⟨_, rfl, ?_⟩
  rw [add_add]
  have hpos : 0 < k.blocks.length := List.length_pos_iff.2 hk.ne
  have hbl := h.blen
  refine h6.bls.set hg (i := (k.blocks.length - 1) * 6 + 4) (by rw [flat_len blkC_len]; omega) rfl (fun W7 ho7 m7 z7 => ?_)
  rw [hbs, set_flat (by omega) _ _ (by rw [List.length_dropLast]; omega)] at ho7
  have ex : (blkC x).set 4 (.bool true) = blkC ({ x.1 with dead := true }, x.2.1, x.2.2) := rfl
  rw [ex] at ho7
  have ho8 : Own W7 ty_valid_block 6 sb ((bs.dropLast ++ [({ x.1 with dead := true }, x.2.1, x.2.2)]).flatMap blkC) := by
    rw [List.flatMap_append, List.flatMap_cons, List.flatMap_nil, List.append_nil]; exact ho7
  have h7 := h6.blocksIn ho8 m7 (fun b hb => by
    rcases List.mem_append.1 hb with hb | hb
    · exact h6.io b (List.dropLast_subset _ hb)
    · simp at hb; subst hb; exact h6.io x hxm)
  refine ⟨rfl, F6, ?_, (((Mod.of0 hm02).transS m6).steps (m7.mono (fun i _ x => h6.fsb i x)) (fun i hi => (g6 i hi).imp id (fun y => Nat.le_trans hm02.size y))), fun i hi => (g6 i hi).imp id (fun y => Nat.le_trans hm02.size y)⟩
  have ek : k.die = { k with stack := k.stack.take x.1.height, blocks := (bs.dropLast ++ [(({ x.1 with dead := true }, x.2.1, x.2.2) : BlkM)]).map (fun y : BlkM => y.1) } := by
    simp only [Wk.die, hlast]
    congr 1
    rw [← h.bk, ← List.map_dropLast, List.map_append]; rfl
  rw [ek]
  exact h7.at
end
end Go.Proofs.YtacjnpahlbibhaaDoor
end
section
/- Contracts of the walker: open, label, again, sig. -/
set_option linter.unusedVariables false
set_option linter.unusedSimpArgs false
set_option maxRecDepth 100000
namespace Go.Proofs.YtacjnpahlbibhaaDoor
open Go Go.RowKit

section
variable {W : World} {q : Addr} {F X : Nat → Prop} {S : MSl} {m : Module} {lc : List Int} {k : Wk} {wb : Nat} {sl ss sb : Sl} {bs : List BlkM}
theorem open_spec (h : WalkAt W q F X S m lc k) (hb : k.blocks.length + 1 ≤ big) {s0 s1 : Sl} {ins outs : List Int} (h0 : Ints (offS W (FX F X)) s0 ins) (h1 : Ints (offS W (FX F X)) s1 outs) (op : Int) :
    Calls Tryd.prog f_valid_walker_open #[.pointer (some q), .int .i64 op, .agg #[s0.v, s1.v]] W (WalkPost W q F X S m lc (.tuple #[]) (k.open op ins outs)) := by
  refine of_valid_walker_open _ _ _ _ _ _ ?_
  unfold V_valid_walker_open
  obtain ⟨wb, sl, ss, sb, bs, rfl, h⟩ := h
  have hsl := h.slen
  have hsb := h.sblen
  refine Na.mk fun b5 W1 hb5 hm1 hz1 hc1 => ?_
  intro J hJ
  have fin : ∀ W2, Mod NoB W1 W2 → J k.liveNow W2 := by
    intro W2 hm2
    refine hJ _ _ ?_
    refine Dw.mk fun W3 hm3 hh3 => ?_
    have hm13 := hm2.trans0 hm3
    have hm03 := hm1.trans0 hm13
    have h3 := h.mod0 hm03
    have c3 := hm13.heap hc1 (fun h => h)
    have lt5 := heap_lt hc1
    have ltw := h.lt wb h.fw
    refine ⟨fun w => w.cell? ((⟨wb, 0, none⟩ : Addr).add 13) = some sb.v ∧ w.cell? ((⟨wb, 0, none⟩ : Addr).add 12) = some ss.v ∧ w.heap[b5]? = some (.cells #[s0.v, s1.v] 37 (0, 0)), ?_, _, rfl, sb, fun w hw => hw.1, _, rfl, ss, fun w hw => hw.2.1, s0, fun w hw => by rw [add_mk]; exact cell_of_heap hw.2.2 rfl, s1, fun w hw => by rw [add_mk]; exact cell_of_heap hw.2.2 rfl, ?_⟩
    · exact ⟨by rw [add_mk]; exact cell_of_heap h3.blk rfl, by rw [add_mk]; exact cell_of_heap h3.blk rfl, c3⟩
    refine Na.mk fun b6 W4 hb6 hm4 hz4 hc4 => ?_
    have hm04 := hm03.trans0 hm4
    have h4 := h.mod0 hm04
    have c4 := hm4.heap c3 (fun h => h)
    refine ⟨⟨by rw [add_mk]; exact cell_of_heap h4.blk rfl, by rw [add_mk]; exact cell_of_heap h4.blk rfl, c4⟩, ?_⟩
    have hsrc : Src Tryd.prog 6 ty_sl_valid_block (⟨some ⟨b6, 0, none⟩, 1, 1⟩ : Sl).v 1 (blkC (⟨op, k.stack.length, ins, outs, false, k.liveNow⟩, s0, s1)) W4 := by
      refine Src.read tyf_sl_valid_block.und rfl (fun j u hu => ⟨_, rfl, ?_⟩) (blkC_one _)
      rw [add_mk]
      refine cell_of_heap hc4 ?_
      rw [hsl, Nat.zero_add]
      rw [show ∀ (l : List Value) (i : Nat), l.toArray[i]? = l[i]? from fun l i => by simp]
      exact hu
    unfold big at hb
    refine tyf_sl_valid_block.append rfl h4.bls hsrc (by omega) (by unfold maxLen; omega) (fun s' W5 ho5 hl5 m5 g5 => ⟨s', rfl, ⟨?_, ?_, ?_⟩, _, rfl, ?_⟩)
    · exact m5.cell (p := (⟨wb, 0, none⟩ : Addr).add 13) (by rw [add_mk]; exact cell_of_heap h4.blk rfl) (by rw [add_block]; exact h4.nsb)
    · exact m5.cell (p := (⟨wb, 0, none⟩ : Addr).add 12) (by rw [add_mk]; exact cell_of_heap h4.blk rfl) (by rw [add_block]; exact h4.nsb)
    · exact m5.heap c4 (fun hx => by have := h.bls.lt hx; omega)
    · have hle := offS_mod0 (F := FX F X) hm04
      have ho6 : Own W5 ty_valid_block 6 s' ((bs ++ [((⟨op, k.stack.length, ins, outs, false, k.liveNow⟩, s0, s1) : BlkM)]).flatMap blkC) := by
        rw [List.flatMap_append, List.flatMap_cons, List.flatMap_nil, List.append_nil]; exact ho5
      refine h4.setBlocks ho6 m5 g5 (fun b hb => ?_) (fun W6 F6 h6 m6 g6 _ => ?_)
      · rcases List.mem_append.1 hb with hb | hb
        · exact h4.io b hb
        · simp at hb; subst hb; exact ⟨Ints.mono h0 hle, Ints.mono h1 hle⟩
      · refine ⟨rfl, F6, ?_, (Mod.of0 hm04).transS m6, fun i hi => (g6 i hi).imp id (fun y => Nat.le_trans hm04.size y)⟩
        have ek : k.open op ins outs = { k with blocks := (bs ++ [((⟨op, k.stack.length, ins, outs, false, k.liveNow⟩, s0, s1) : BlkM)]).map (fun y : BlkM => y.1) } := by
          unfold Wk.open
          congr 1
          rw [List.map_append, h.bk]; rfl
        rw [ek]; exact h6.at
  refine ⟨_, rfl, sb, by rw [add_mk]; exact cell_of_heap (h.mod0 hm1).blk rfl, Br.dec (fun hpos => ?_) (fun hn => ?_)⟩
  · have hne : k.blocks ≠ [] := by intro e; rw [e] at hsb; simp at hsb; omega
    obtain ⟨b, hlast⟩ : ∃ b, k.blocks.getLast? = some b := ⟨_, List.getLast?_eq_some_getLast hne⟩
    refine CallV.mk ent_valid_walker_top (top_spec (h.mod0 hm1) hne (by omega)) ?_
    rintro e W7 ⟨g, rfl, hg, hm7, hh7⟩
    have h7 := h.mod0 (hm1.trans0 hm7)
    obtain ⟨x, rfl, hxm, hbs, hF, hc⟩ := h7.lastAt hlast hg
    have elive : k.liveNow = (x.1.live && !x.1.dead) := by simp only [Wk.liveNow, hlast]
    refine ⟨_, rfl, _, rfl, _, rfl, x.1.live, hc 5 _ rfl, fun ht => ?_, fun hf => ?_⟩
    · refine CallV.mk ent_valid_walker_top (top_spec h7 hne (by omega)) ?_
      rintro e W8 ⟨g', rfl, hg', hm8, hh8⟩
      have h8 := h7.mod0 hm8
      obtain ⟨x', hx', hxm', _, _, hc'⟩ := h8.lastAt hlast hg'
      refine ⟨_, rfl, _, rfl, _, rfl, x'.1.dead, hc' 4 _ rfl, ?_⟩
      have := fin W8 (hm7.trans0 hm8)
      rw [elive, ht, Bool.true_and] at this
      rw [hx']; exact this
    · have := fin W7 hm7
      rw [elive, show x.1.live = false from hf, Bool.false_and] at this
      exact this
  · have hne : k.blocks = [] := by
      rw [← List.length_eq_zero_iff]; omega
    have := fin W1 (Mod.refl _ _)
    rw [show k.liveNow = true from by unfold Wk.liveNow; rw [hne]; rfl] at this
    exact this
/-- A label's types stand somewhere outside the walker. -/
def LabelPost (W : World) (q : Addr) (F X : Nat → Prop) (S : MSl) (m : Module) (lc : List Int) (types : List Int) (k' : Wk) : Ending → World → Prop :=
  fun e W' => ∃ t : Sl, e = .returned t.v ∧ ∃ F', WalkAt W' q F' X S m lc k' ∧ Mod F W W' ∧ Grows F W F' ∧ Ints (offS W' (FX F' X)) t types
theorem label_spec (h : WalkAt W q F X S m lc k) (hb : k.blocks.length ≤ big) (l : Int) (hl : 0 ≤ l) :
    Calls Tryd.prog f_valid_walker_label #[.pointer (some q), .int .i64 l] W (LabelPost W q F X S m lc (k.label l).1 (k.label l).2) := by
  refine of_valid_walker_label _ _ _ _ ?_
  unfold V_valid_walker_label
  obtain ⟨wb, sl, ss, sb, bs, rfl, h⟩ := h
  have hsb := h.sblen
  have hbl := h.blen
  unfold big at hb
  refine ⟨_, rfl, sb, by rw [add_mk]; exact cell_of_heap h.blk rfl, Br.dec (fun hge => ?_) (fun hlt => ?_)⟩
  · have ek : k.label l = ([], { k with bad := true }) := by unfold Wk.label; rw [if_pos (by omega)]
    rw [ek]
    refine ⟨_, rfl, h.setBad (fun w' h1 m1 _ => ⟨⟨none, 0, 0⟩, rfl, F, h1.at, m1, Grows.refl _ _, SlOf.nil _ _⟩)⟩
  · refine Dw.mk fun W2 hm2 hh2 => ?_
    have h2 := h.mod0 hm2
    have hi : bs.length - 1 - l.toNat < bs.length := by omega
    obtain ⟨x, hx⟩ : ∃ x, bs[bs.length - 1 - l.toNat]? = some x := ⟨_, List.getElem?_eq_getElem hi⟩
    have hxm : x ∈ bs := List.mem_of_getElem? hx
    have hkx : k.blocks[k.blocks.length - 1 - l.toNat]? = some x.1 := by rw [← h.bk, List.length_map, List.getElem?_map, hx]; rfl
    have ek : k.label l = (if x.1.op = 3 then x.1.ins else x.1.outs, k) := by
      unfold Wk.label; rw [if_neg (by omega), hkx]
    have hw : IntKind.wrap .i64 ((IntKind.wrap .i64 ((sb.len : Int) - 1)) - l) = ((bs.length - 1 - l.toNat : Nat) : Int) := by
      rw [wrap_id (x := (sb.len : Int) - 1) (by omega) (by omega), wrap_id (by omega) (by omega)]; omega
    obtain ⟨g, hg, hF, hc⟩ := h2.bat hx
    have rd : ∀ (w : World), WalkIn w F X S m lc wb sl ss sb bs k → ∀ (j : Nat) (v : Value), (blkC x)[j]? = some v → w.cell? (((⟨g, 0, none⟩ : Addr).add ((bs.length - 1 - l.toNat) * 6)).add j) = some v := by
      intro w hw' j v hv
      obtain ⟨g', hg', _, hc'⟩ := hw'.bat hx
      rw [hg] at hg'; cases hg'
      exact hc' j v hv
    refine ⟨fun w => WalkIn w F X S m lc wb sl ss sb bs k, h2, _, rfl, sb, fun w hw' => by rw [add_mk]; exact cell_of_heap hw'.blk rfl, _, rfl, sb, fun w hw' => by rw [add_mk]; exact cell_of_heap hw'.blk rfl, ?_⟩
    rw [hw]
    refine ⟨_, ⟨hg, by omega, by omega⟩, _, fun w hw' => rd w hw' 0 _ rfl, _, fun w hw' => rd w hw' 1 _ rfl, x.2.1, fun w hw' => rd w hw' 2 _ rfl, x.2.2, fun w hw' => rd w hw' 3 _ rfl, _, fun w hw' => rd w hw' 4 _ rfl, _, fun w hw' => rd w hw' 5 _ rfl, ?_⟩
    refine Na.mk fun b5 W3 hb5 hm3 hz3 hc3 => ?_
    have h3 := h2.mod0 hm3
    refine ⟨h3, ?_⟩
    have lt5 := heap_lt hc3
    refine stC_at (b := b5) (o := 0) rfl hc3 (by simp) (by simp [Value.oneCell', Sl.v]) (fun W4 h4 m4 sz4 => ?_)
    rw [setL_all (by simp)] at h4
    have hm04 : Mod NoB W W4 := hm2.trans0 (hm3.trans m4 (fun i hi e => by omega))
    have hw4 := h.mod0 hm04
    have hio := hw4.io x hxm
    refine ⟨x.1.op, cell_of_heap h4 rfl, Br.eq (fun he => ⟨x.2.1, cell_of_heap h4 rfl, ?_⟩) (fun he => ⟨x.2.2, cell_of_heap h4 rfl, ?_⟩)⟩
    · rw [ek, if_pos he]
      exact ⟨_, rfl, F, hw4.at, Mod.of0 hm04, fun i hi => .inl hi, hio.1⟩
    · rw [ek, if_neg he]
      exact ⟨_, rfl, F, hw4.at, Mod.of0 hm04, fun i hi => .inl hi, hio.2⟩
end
end Go.Proofs.YtacjnpahlbibhaaDoor
end
section
/- Contracts of the walker: again, sig. -/
set_option linter.unusedVariables false
set_option linter.unusedSimpArgs false
set_option maxRecDepth 100000
namespace Go.Proofs.YtacjnpahlbibhaaDoor
open Go Go.RowKit

section
variable {W : World} {q : Addr} {F X : Nat → Prop} {S : MSl} {m : Module} {lc : List Int} {k : Wk} {wb : Nat} {sl ss sb : Sl} {bs : List BlkM}
theorem beside_le {M Xa Xb : Nat → Prop} {W' : World} (hm : Mod M W W') (hM : ∀ b, M b → Xa b) (hb : ∀ b, Xb b → Xa b ∨ W.heap.size ≤ b) : Le (offS W (FX F Xa)) (offS W' (FX F Xb)) :=
  ((Rds.all W (FX F Xa)).step (hm.mono (fun _ _ x => .inr (hM _ x))) (fun i x => x.elim (fun y => .inl (.inl y)) (fun y => (hb i y).imp .inr id))).le
/-- Blocks beside the walker change. -/
theorem WalkIn.beside {M Xa Xb : Nat → Prop} (h : WalkIn W F Xa S m lc wb sl ss sb bs k) {W' : World} (hm : Mod M W W') (hM : ∀ b, M b → Xa b) (hd : ∀ b, M b → ¬ F b) (hb : ∀ b, Xb b → Xa b ∨ W.heap.size ≤ b) : WalkIn W' F Xb S m lc wb sl ss sb bs k := by
  have hle : Le (offS W (FX F Xa)) (offS W' (FX F Xb)) := beside_le hm hM hb
  exact {
    blk := hm.heap h.blk (fun x => hd _ x h.fw)
    mr := ModR.mono hle h.mr
    lcs := Ints.mono h.lcs hle
    stk := h.stk.mod hm (fun b hb e => hd _ e (h.fss b hb))
    bls := h.bls.mod hm (fun b hb e => hd _ e (h.fsb b hb))
    bk := h.bk
    io := fun b hb => ⟨Ints.mono (h.io b hb).1 hle, Ints.mono (h.io b hb).2 hle⟩
    nss := h.nss
    nsb := h.nsb
    ndd := h.ndd
    fw := h.fw
    fss := h.fss
    fsb := h.fsb
    lt := fun b hb => Nat.lt_of_lt_of_le (h.lt b hb) hm.size }
theorem WalkAt.beside {M Xa Xb : Nat → Prop} (h : WalkAt W q F Xa S m lc k) {W' : World} (hm : Mod M W W') (hM : ∀ b, M b → Xa b) (hd : ∀ b, M b → ¬ F b) (hb : ∀ b, Xb b → Xa b ∨ W.heap.size ≤ b) : WalkAt W' q F Xb S m lc k := by
  obtain ⟨wb, sl, ss, sb, bs, rfl, h⟩ := h; exact (h.beside hm hM hd hb).at
theorem WalkAt.monoX {Xa Xb : Nat → Prop} (h : WalkAt W q F Xa S m lc k) (hb : ∀ b, Xb b → Xa b) : WalkAt W q F Xb S m lc k :=
  h.beside (M := NoB) (Mod.refl _ _) (fun b x => x.elim) (fun b x => x.elim) (fun b x => .inl (hb b x))
/-- What was read outside the walker still stands. -/
theorem sub_step {W' : World} (hm : Mod F W W') : Sub (offS W (FX F X)) W' :=
  (offS_sub _ _).mod hm (fun p v h hF => offS_off W (FX F X) p v h (.inl hF))
theorem again_spec (h : WalkAt W q F X S m lc k) (hX : ∀ b, X b → b < W.heap.size) (hk : k.Ok) (hb : k.blocks.length ≤ big) {s : Sl} {xs : List Int} (hx : Ints (offS W (FX F X)) s xs) (hl : k.stack.length + xs.length ≤ big) :
    Calls Tryd.prog f_valid_walker_again #[.pointer (some q), s.v] W (WalkPost W q F X S m lc (.tuple #[]) (k.again xs)) := by
  refine of_valid_walker_again _ _ _ _ ?_
  unfold V_valid_walker_again
  have hlb := hl
  unfold big at hl
  intro L hL
  have key : ∀ (j : Nat) (k1 : Wk) (was : List Int) (s4 : Sl) (W1 : World) (F1 : Nat → Prop), j ≤ xs.length → WalkAt W1 q F1 (fun b => X b ∨ s4.isB b) S m lc k1 → k1.Ok → k1.blocks.length ≤ big → k1.stack.length ≤ k.stack.length → Own W1 ty_int 1 s4 (iv was) → (∀ b, s4.isB b → ¬ F1 b) →
      (∀ b, s4.isB b → W.heap.size ≤ b) → was.length + j = xs.length → k.againR [] xs.reverse = k1.againR was (xs.take j).reverse → Mod F W W1 → Grows F W F1 → L s4 ((j : Int) - 1) W1 := by
    intro j
    induction j with
    | zero =>
      intro k1 was s4 W1 F1 hj h1 o1 b1 s1 ho hd hf hwl he hm hg
      refine hL _ _ _ (Br.dec (fun h => by omega) (fun _ => ?_))
      refine CallV.mk ent_slices_Reverse_int (Reverse_spec ho (by unfold big; omega)) ?_
      rintro e W5 ⟨rfl, ho5, hm5, hz5⟩
      refine ⟨_, rfl, rfl, ?_⟩
      have h5 := h1.beside (Xb := fun b => X b ∨ s4.isB b) hm5 (fun b x => .inr x) hd (fun b x => .inl x)
      have hm05 : Mod F W W5 := hm.trans hm5 (fun i hi x => by have := hf i x; omega)
      have hg5 : Grows F W F1 := hg
      refine WalkPost.go ent_valid_walker_gives (gives_spec h5 (Sub.self _) ho5.intsAll (by rw [List.length_reverse]; unfold big; omega)) hm05 hg5 (fun W6 F6 h6 _ _ m6 g6 => ⟨rfl, rfl, F6, ?_, m6, g6⟩)
      have ek : k.again xs = k1.gives was.reverse := by
        unfold Wk.again
        rw [he]; rfl
      rw [ek]
      exact h6.monoX (fun b x => .inl x)
    | succ j ih =>
      intro k1 was s4 W1 F1 hj h1 o1 b1 s1 ho hd hf hwl he hm hg
      have hlt : j < xs.length := by omega
      refine hL _ _ _ (Br.dec (fun _ => ?_) (fun h => absurd (by omega) h))
      obtain ⟨p, hp, hc⟩ := hx.get hlt
      have ej : (((j + 1 : Nat) : Int) - 1) = (j : Int) := by omega
      rw [ej]
      refine ⟨p, ⟨hp, by omega, by rw [hx.1]; omega⟩, _, sub_step hm _ _ hc, ?_⟩
      refine WalkPost.go ent_valid_walker_take (take_spec h1 o1 b1 (by unfold big; omega) _) hm hg (fun W2 F2 h2 m12 g12 m2 g2 => ⟨_, rfl, ?_⟩)
      have ho2 := ho.mod m12 hd
      have hd2 : ∀ b, s4.isB b → ¬ F2 b := fun b x y => (g12 b y).elim (hd b x) (fun z => by have := ho.lt x; omega)
      refine Na.mk fun b3 W3 hb3 hm3 hz3 hc3 => ?_
      have h3 := h2.mod0 hm3
      refine app_ints (ho2.mod0 hm3) (Ints.src (one_int hc3) (Sub.self _)) (by unfold big; simp; omega) (fun s5 W4 ho4 m4 g4 => ⟨s5, rfl, ?_⟩)
      have h4 := h3.beside (Xb := fun b => X b ∨ s5.isB b) m4 (fun b x => .inr x) hd2 (fun b x => x.elim (fun y => .inl (.inl y)) (fun y => (g4 b y).imp .inr id))
      rw [wrap_id (by omega) (by omega)]
      have z3 := hm3.size
      have z2 := m2.size
      refine ih _ _ s5 W4 F2 (by omega) h4 (o1.take _) (by rw [Wk.take_blocks]; exact b1) (Nat.le_trans (Wk.take_len _ _) s1) ho4 (fun b x => (g4 b x).elim (hd2 b) (fun y => h3.new y)) (fun b x => (g4 b x).elim (hf b) (fun y => by omega)) (by simp; omega) ?_ ((m2.trans0 hm3).trans m4 (fun i hi x => by have := hf i x; omega)) g2
      rw [he, List.take_succ_eq_append_getElem hlt, List.reverse_append]; rfl
  have hlen := hx.1
  rw [wrap_id (by omega) (by omega), hlen]
  exact key xs.length k [] ⟨none, 0, 0⟩ W F (Nat.le_refl _) (h.monoX (fun b x => x.elim id (fun y => (nil_notB b y).elim))) hk hb (Nat.le_refl _) (Own.nil _ _ _) (fun b x => (nil_notB b x).elim) (fun b x => (nil_notB b x).elim) (by simp) (by rw [List.take_length]) (Mod.refl _ _) (Grows.refl _ _)
/-- Fresh numbers are read outside the walker. -/
theorem Nint.rd {W' : World} {s : Sl} {xs : List Int} (h : Nint W W' s xs) (hF : ∀ b, FX F X b → b < W.heap.size) : Ints (offS W' (FX F X)) s xs :=
  h.own.ints (fun q hq i v hv => offS_of hv (fun x => by
    have h1 := h.fresh q.block ⟨q, hq, rfl⟩
    rw [add_block] at x
    have := hF _ x; omega))
theorem WalkAt.lt (h : WalkAt W q F X S m lc k) : ∀ b, F b → b < W.heap.size := by
  obtain ⟨wb, sl, ss, sb, bs, rfl, h⟩ := h; exact h.lt
def SigPostW (W : World) (q : Addr) (F X : Nat → Prop) (S : MSl) (m : Module) (lc : List Int) (x : Sig) (k' : Wk) : Ending → World → Prop :=
  fun e W' => ∃ s0 s1 : Sl, e = .returned (.agg #[s0.v, s1.v]) ∧ ∃ F', WalkAt W' q F' X S m lc k' ∧ Mod F W W' ∧ Grows F W F' ∧ Ints (offS W' (FX F' X)) s0 x.ins ∧ Ints (offS W' (FX F' X)) s1 x.outs
theorem sig_spec (h : WalkAt W q F X S m lc k) (hX : ∀ b, X b → b < W.heap.size) (a : Int) (ha : -9223372036854775808 ≤ a) :
    Calls Tryd.prog f_valid_walker_sig #[.pointer (some q), .int .i64 a] W (SigPostW W q F X S m lc (k.sig m a).1 (k.sig m a).2) := by
  refine of_valid_walker_sig _ _ _ _ ?_
  unfold V_valid_walker_sig
  refine Na.mk fun b4 W1 hb4 hm1 hz1 hc1 => ?_
  have lt4 := heap_lt hc1
  have h1 : WalkAt W1 q F (fun b => X b ∨ b = b4) S m lc k := h.beside hm1 (fun b x => x.elim) (fun b x => x.elim) (fun b x => x.imp id (fun e => by omega))
  have hFW := h.lt
  -- the end: the answer stands in block b4
  have fin : ∀ (x : Sig) (k' : Wk) (t0 t1 : Sl) (W5 : World) (F5 : Nat → Prop) (K : World → Prop), WalkAt W5 q F5 (fun b => X b ∨ b = b4) S m lc k' → Mod F W W5 → Grows F W F5 → ¬ F5 b4 → W5.heap[b4]? = some (.cells #[(.slice none 0 0), (.slice none 0 0)] 37 (0, 0)) →
      Ints (offS W5 (FX F5 (fun b => X b ∨ b = b4))) t0 x.ins → Ints (offS W5 (FX F5 (fun b => X b ∨ b = b4))) t1 x.outs →
      (∀ W6, W6.cell? ((⟨b4, 0, none⟩ : Addr).add 0) = some t0.v → W6.cell? ((⟨b4, 0, none⟩ : Addr).add 1) = some t1.v → SigPostW W q F X S m lc x k' (.returned (.agg #[t0.v, t1.v])) W6 → K W6) → stC W5 ⟨b4, 0, none⟩ [t0.v, t1.v] 0 K := by
    intro x k' t0 t1 W5 F5 K h5 m5 g5 hn c4 r0 r1 hK
    refine stC_at (b := b4) (o := 0) rfl c4 (by simp) (by simp [Value.oneCell', Sl.v]) (fun W6 h6 m6 sz6 => ?_)
    rw [setL_all (by simp)] at h6
    have hle : Le (offS W5 (FX F5 (fun b => X b ∨ b = b4))) (offS W6 (FX F5 X)) := beside_le m6 (fun b x => .inr x) (fun b x => .inl (.inl x))
    refine hK W6 (by rw [add_mk]; exact cell_of_heap h6 rfl) (by rw [add_mk]; exact cell_of_heap h6 rfl) ⟨t0, t1, rfl, F5, ?_, ?_, g5, Ints.mono r0 hle, Ints.mono r1 hle⟩
    · exact h5.beside m6 (fun b x => .inr x) (fun b e => e ▸ hn) (fun b x => .inl (.inl x))
    · exact m5.trans m6 (fun i hi e => by omega)
  have hnb : ¬ F b4 := fun x => by have := hFW _ x; omega
  refine Br.dec (fun hge => ?_) (fun hlt => Br.eq (fun he => ?_) (fun hne => ?_))
  · have ek : k.sig m a = ((kindOf m a).1, k.must (kindOf m a).2) := by unfold Wk.sig; rw [if_pos hge]
    rw [ek]
    obtain ⟨wb, sl, ss, sb, bs, rfl, g1⟩ := h1
    have cl : ∀ (j : Nat) (v : Value), (#[S.types.v, S.imports.v, S.funcs.v, S.tables.v, S.mems.v, S.globals.v, S.exports.v, .int .i64 m.start, S.elems.v, S.codes.v, S.datas.v, sl.v, ss.v, sb.v, .bool k.bad] : Array Value)[j]? = some v → W1.cell? (((⟨wb, 0, none⟩ : Addr).add 0).add j) = some v := by
      intro j v hv
      rw [add_zero, add_mk]
      exact cell_of_heap g1.blk (by rw [Nat.zero_add]; exact hv)
    refine ⟨_, rfl, _, cl 0 _ rfl, _, cl 1 _ rfl, _, cl 2 _ rfl, _, cl 3 _ rfl, _, cl 4 _ rfl, _, cl 5 _ rfl, _, cl 6 _ rfl, _, cl 7 _ rfl, _, cl 8 _ rfl, _, cl 9 _ rfl, _, cl 10 _ rfl, ?_⟩
    refine CallV.mk ent_valid_kind (kind_spec (offS_sub W1 _) g1.mr _ g1.mr.tlen) ?_
    rintro e W2 ⟨t0, t1, rfl, n0, n1, hd⟩
    refine ⟨_, rfl, t0, t1, _, rfl, ?_⟩
    refine Na.mk fun b5 W3 hb5 hm3 hz3 hc3 => ?_
    have lt5 := heap_lt hc3
    refine stC_at (b := b5) (o := 0) rfl hc3 (by simp) (by simp [Value.oneCell', Sl.v]) (fun W4 h4 m4 sz4 => ?_)
    rw [setL_all (by simp)] at h4
    have hm24 : Mod NoB W2 W4 := hm3.trans m4 (fun i hi e => by omega)
    have hm14 := n0.mod.trans0 hm24
    have z12 := n0.mod.size
    have h4' := g1.at.mod0 hm14
    have hFX : ∀ b, FX F (fun b => X b ∨ b = b4) b → b < W1.heap.size := fun b x => x.elim (fun y => by have := hFW _ y; omega) (fun y => y.elim (fun z => by have := hX _ z; omega) (fun z => by omega))
    have r0 := (n0.mod0 hm24).rd hFX
    have r1 := (n1.mod0 hm24).rd hFX
    refine WalkPost.go ent_valid_walker_must (must_spec' h4' _) (Mod.of0 (hm1.trans0 hm14)) (fun i hi => .inl hi) (fun W5 F5 h5 m45 g45 m5 g5 => ⟨rfl, ?_⟩)
    have c5 := m45.heap h4 (fun x => by have := hFW _ x; omega)
    have c4 := m45.heap (hm14.heap hc1 (fun h => h)) hnb
    refine ⟨t0, by rw [add_mk]; exact cell_of_heap c5 rfl, t1, by rw [add_mk]; exact cell_of_heap c5 rfl, ?_⟩
    exact fin (kindOf m a).1 _ t0 t1 W5 F5 _ h5 m5 g5 (fun x => (g45 _ x).elim hnb (fun y => by have := hm14.size; omega)) c4 (Ints.mono r0 (offS_step m45 g45)) (Ints.mono r1 (offS_step m45 g45)) (fun W6 c0 c1 hp => ⟨t0, c0, t1, c1, hp⟩)
  · have ek : k.sig m a = (⟨[], []⟩, k) := by unfold Wk.sig; rw [if_neg (by omega), if_pos he]
    rw [ek]
    exact fin ⟨[], []⟩ _ ⟨none, 0, 0⟩ ⟨none, 0, 0⟩ W1 F _ h1 (Mod.of0 hm1) (Grows.refl _ _) hnb hc1 (SlOf.nil _ _) (SlOf.nil _ _) (fun W6 c0 c1 hp => ⟨_, c0, _, c1, hp⟩)
  · have ek : k.sig m a = (⟨[], [a + 128]⟩, k) := by unfold Wk.sig; rw [if_neg (by omega), if_neg hne]
    rw [ek]
    refine Na.mk fun b5 W2 hb5 hm2 hz2 hc2 => ?_
    rw [wrap_id (by omega) (by omega)] at hc2
    have lt5 := heap_lt hc2
    have r1 : Ints (offS W2 (FX F (fun b => X b ∨ b = b4))) ⟨some ⟨b5, 0, none⟩, 1, 1⟩ [a + 128] := by
      obtain ⟨e1, e2⟩ := one_int hc2
      refine ⟨e1, fun i y hy => ?_⟩
      obtain ⟨p, hp, hc⟩ := e2 i y hy
      refine ⟨p, hp, offS_of hc (fun x => ?_)⟩
      cases hp
      rw [add_block] at x
      rcases x with x | x
      · have := hFW _ x; simp only at this; omega
      · rcases x with x | x
        · have := hX _ x; simp only at this; omega
        · simp only at x; omega
    exact fin ⟨[], [a + 128]⟩ _ ⟨none, 0, 0⟩ ⟨some ⟨b5, 0, none⟩, 1, 1⟩ W2 F _ (h1.mod0 hm2) (Mod.of0 (hm1.trans0 hm2)) (Grows.refl _ _) hnb (hm2.heap hc1 (fun h => h)) (SlOf.nil _ _) r1 (fun W6 c0 c1 hp => ⟨_, c0, _, c1, hp⟩)
end
end Go.Proofs.YtacjnpahlbibhaaDoor
end

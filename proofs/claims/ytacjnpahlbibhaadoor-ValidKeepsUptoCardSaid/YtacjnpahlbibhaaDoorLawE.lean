import Derived.Test.YtacjnpahlbibhaaDoorLawB
section
/- ValidKeeps: the copy of the types, round by round. -/
set_option linter.unusedVariables false
set_option linter.unusedSimpArgs false
set_option maxRecDepth 100000
namespace Go.Proofs.YtacjnpahlbibhaaDoor
open Go Go.RowKit

def sgC (p : Sl × Sl) : List Value := [p.1.v, p.2.v]
theorem sgC_len (p : Sl × Sl) : (sgC p).length = 2 := rfl
theorem sgC_one (p : Sl × Sl) : ∀ u ∈ sgC p, u.oneCell' = true := by
  intro u hu; simp [sgC] at hu; rcases hu with rfl | rfl <;> rfl
/-- The slices of the copy. -/
@[reducible] def cpS (S : MSl) (m : Module) (tt s32 : Sl) : MSl := { S with types := tt, funcs := ⟨s32.a, m.funcs.length, s32.cap⟩ }
structure CopSt (b2 b5 : Nat) (S : MSl) (m : Module) (s32 : Sl) (W0 W' : World) (tt : Sl) (cp : List (Sl × Sl)) : Prop where
  c2 : W'.heap[b2]? = some (.cells (ModC S m) 32 (0, 0))
  c5 : W'.heap[b5]? = some (.cells (ModC (cpS S m tt s32) m) 32 (0, 0))
  mod : Mod NoB W0 W'
  fn : Own W' ty_int 1 s32 (iv (m.funcs ++ [91]))
  own : Own W' ty_Sig 2 tt (cp.flatMap sgC)
  each : ∀ (i : Nat) p x, cp[i]? = some p → m.types[i]? = some x → Own W' ty_int 1 p.1 (iv x.ins) ∧ Own W' ty_int 1 p.2 (iv x.outs)
  dis : ∀ p ∈ cp, ∀ b, p.1.isB b ∨ p.2.isB b → ¬ tt.isB b ∧ b ≠ b5 ∧ b < W'.heap.size
  d1 : ∀ b, tt.isB b → b ≠ b5 ∧ b ≠ b2 ∧ ¬ s32.isB b ∧ W0.heap.size ≤ b
  d2 : ∀ b, s32.isB b → b ≠ b5 ∧ b ≠ b2
  ne : b5 ≠ b2
  b5 : W0.heap.size ≤ b5
variable {b2 b5 : Nat} {S : MSl} {m : Module} {s32 : Sl} {W0 W : World} {tt : Sl} {cp : List (Sl × Sl)}
theorem CopSt.mod0 {W' : World} (h : CopSt b2 b5 S m s32 W0 W tt cp) (hm : Mod NoB W W') : CopSt b2 b5 S m s32 W0 W' tt cp where
  c2 := hm.heap h.c2 (fun h => h)
  c5 := hm.heap h.c5 (fun h => h)
  mod := h.mod.trans0 hm
  fn := h.fn.mod0 hm
  own := h.own.mod0 hm
  each := fun i p x hp hx => ⟨(h.each i p x hp hx).1.mod0 hm, (h.each i p x hp hx).2.mod0 hm⟩
  dis := fun p hp b hb => by
    obtain ⟨x1, x2, x3⟩ := h.dis p hp b hb
    exact ⟨x1, x2, Nat.lt_of_lt_of_le x3 hm.size⟩
  d1 := h.d1
  d2 := h.d2
  ne := h.ne
  b5 := h.b5
/-- One type more. -/
theorem CopSt.next (h : CopSt b2 b5 S m s32 W0 W tt cp) {W1 : World} (hm : Mod NoB W W1) {x : Sig} (hx : m.types[cp.length]? = some x) {u v : Sl} (hu : Own W1 ty_int 1 u (iv x.ins)) (hv : Own W1 ty_int 1 v (iv x.outs))
    (fu : ∀ b, u.isB b → W.heap.size ≤ b) (fv : ∀ b, v.isB b → W.heap.size ≤ b) (hl : cp.length ≤ big) {K : World → Prop}
    (hk : ∀ W2 tt', CopSt b2 b5 S m s32 W0 W2 tt' (cp ++ [(u, v)]) → K W2) {b : Nat} (hb : W1.heap[b]? = some (.cells #[u.v, v.v] 37 (0, 0))) {KS : World → Prop} (hKS : ∀ w, Mod tt.isB W1 w → KS w) :
    RunV Tryd.prog (Builtin.append_ #[22, 22] 22 #[tt.v, .slice (some ⟨b, 0, none⟩) 1 1]) W1 fun v W2 => ∃ s66 : Sl, v = s66.v ∧ KS W2 ∧ stC W2 ((⟨b5, 0, none⟩ : Addr).add 0) [s66.v] 0 K := by
  have h1 := h.mod0 hm
  have hsrc : Src Tryd.prog 2 ty_sl_Sig (⟨some ⟨b, 0, none⟩, 1, 1⟩ : Sl).v 1 (sgC (u, v)) W1 := by
    refine Src.read tyf_sl_Sig.und rfl (fun j y hy => ⟨_, rfl, ?_⟩) (sgC_one _)
    rw [add_mk]
    refine cell_of_heap hb ?_
    rw [Nat.zero_add]
    rw [show ∀ (l : List Value) (i : Nat), l.toArray[i]? = l[i]? from fun l i => by simp]
    exact hy
  have htl : tt.len = cp.length := by have := h1.own.1; rw [flat_len sgC_len] at this; omega
  unfold big at hl
  have zW := hm.size
  refine tyf_sl_Sig.append rfl h1.own hsrc (by rw [htl]; omega) (by rw [htl]; unfold maxLen; omega) (fun s66 W2 ho2 hl2 m2 g2 => ⟨s66, rfl, hKS W2 m2, ?_⟩)
  have nb5 : ¬ tt.isB b5 := fun y => (h.d1 _ y).1 rfl
  have nb2 : ¬ tt.isB b2 := fun y => (h.d1 _ y).2.1 rfl
  have lt5 := heap_lt h1.c5
  have lt2 := heap_lt h1.c2
  have n66 : ¬ s66.isB b5 := fun y => (g2 _ y).elim nb5 (fun z => by omega)
  have utt : ∀ b, u.isB b → ¬ tt.isB b := fun b x y => by have := fu b x; have := h.own.lt y; omega
  have vtt : ∀ b, v.isB b → ¬ tt.isB b := fun b x y => by have := fv b x; have := h.own.lt y; omega
  have l5 : b5 < W.heap.size := heap_lt h.c5
  refine stC_at (b := b5) (o := 0) (by rw [add_mk]) (m2.heap h1.c5 nb5) (by simp) (by simp [Value.oneCell', Sl.v]) (fun W3 c5 m3 z3 => ?_)
  have hmod : Mod NoB W0 W3 := (h1.mod.trans m2 (fun i hi y => by have := (h.d1 i y).2.2.2; omega)).trans m3 (fun i hi e => by have := h.b5; omega)
  refine hk W3 s66 {
    c2 := m3.heap (m2.heap h1.c2 nb2) (fun e => h.ne e.symm)
    c5 := c5
    mod := hmod
    fn := (h1.fn.mod m2 (fun b hb y => (h.d1 b y).2.2.1 hb)).mod m3 (fun b hb e => (h.d2 b hb).1 e)
    own := ?_
    each := ?_
    dis := ?_
    d1 := ?_
    d2 := h.d2
    ne := h.ne
    b5 := h.b5 }
  · have e1 : cp.flatMap sgC ++ sgC (u, v) = (cp ++ [(u, v)]).flatMap sgC := by rw [List.flatMap_append, List.flatMap_cons, List.flatMap_nil, List.append_nil]
    rw [← e1]
    exact ho2.mod m3 (fun b hb e => n66 (e ▸ hb))
  · intro i p y hp hy
    rcases Nat.lt_or_ge i cp.length with hi | hi
    · rw [List.getElem?_append_left hi] at hp
      obtain ⟨o1, o2⟩ := h1.each i p y hp hy
      have hpm := List.mem_of_getElem? hp
      refine ⟨(o1.mod m2 (fun b hb z => (h1.dis p hpm b (.inl hb)).1 z)).mod m3 (fun b hb e => (h1.dis p hpm b (.inl hb)).2.1 e), (o2.mod m2 (fun b hb z => (h1.dis p hpm b (.inr hb)).1 z)).mod m3 (fun b hb e => (h1.dis p hpm b (.inr hb)).2.1 e)⟩
    · have hi2 : i = cp.length := by
        rcases Nat.lt_or_ge i (cp.length + 1) with h' | h'
        · omega
        · rw [List.getElem?_eq_none (by simp; omega)] at hp; cases hp
      subst hi2
      rw [List.getElem?_append_right (Nat.le_refl _)] at hp
      simp at hp; subst hp
      rw [hx] at hy; cases hy
      exact ⟨(hu.mod m2 utt).mod m3 (fun b hb e => by have := fu b hb; omega), (hv.mod m2 vtt).mod m3 (fun b hb e => by have := fv b hb; omega)⟩
  · intro p hp b hb
    have z12 : W1.heap.size ≤ W3.heap.size := Nat.le_trans m2.size m3.size
    rcases List.mem_append.1 hp with hp | hp
    · obtain ⟨x1, x2, x3⟩ := h1.dis p hp b hb
      exact ⟨fun y => (g2 b y).elim x1 (fun z => by omega), x2, Nat.lt_of_lt_of_le x3 z12⟩
    · simp at hp; subst hp
      rcases hb with hb | hb
      · have := fu b hb
        have hlt := hu.lt hb
        exact ⟨fun y => (g2 b y).elim (utt b hb) (fun z => by omega), by omega, by omega⟩
      · have := fv b hb
        have hlt := hv.lt hb
        exact ⟨fun y => (g2 b y).elim (vtt b hb) (fun z => by omega), by omega, by omega⟩
  · intro b y
    rcases g2 b y with z | z
    · exact h.d1 b z
    · exact ⟨by omega, by omega, fun q => by have := h1.fn.lt q; omega, by have := h1.mod.size; omega⟩
/-- All types copied: the copy reads as the module. -/
theorem CopSt.done (h : CopSt b2 b5 S m s32 W0 W tt cp) (hl : cp.length = m.types.length) {r : Rd} (hr : Sub r W0) (hm : ModR r S m) : ModR W.cell? (cpS S m tt s32) m := by
  have hm' : ModR W.cell? S m := ModR.mono (fun p v hp => h.mod.cell (hr p v hp) (fun h => h)) hm
  exact { hm' with
    types := by
      have ho := h.own
      refine ⟨by have := ho.1; rw [flat_len sgC_len] at this; show tt.len = _; omega, fun i x hx => ?_⟩
      have hi : i < m.types.length := by
        rcases Nat.lt_or_ge i m.types.length with h' | h'
        · exact h'
        · rw [List.getElem?_eq_none h'] at hx; cases hx
      have hp := List.getElem?_eq_getElem (l := cp) (show i < cp.length by omega)
      obtain ⟨o1, o2⟩ := h.each i _ x hp hx
      have f0 := flatMap_at sgC_len hp (j := 0) (by omega)
      have f1 := flatMap_at sgC_len hp (j := 1) (by omega)
      obtain ⟨q, hq, c0⟩ := ho.cell (i := i * 2 + 0) (v := (cp[i]'(by omega)).1.v) (by rw [f0]; rfl)
      obtain ⟨q', hq', c1⟩ := ho.cell (i := i * 2 + 1) (v := (cp[i]'(by omega)).2.v) (by rw [f1]; rfl)
      rw [hq] at hq'; cases hq'
      have hlen := hm.tlen x (List.mem_of_getElem? hx)
      exact ⟨q, hq, _, _, by rw [add_add]; exact c0, by rw [add_add]; exact c1, o1.intsAll, o2.intsAll, hlen⟩
    funcs := by
      have hc := h.fn.cut (n := m.funcs.length) (by have := h.fn.1; simp at this; omega)
      have e1 : (iv (m.funcs ++ [91])).take (m.funcs.length * 1) = iv m.funcs := by
        rw [Nat.mul_one, iv, List.map_append, List.take_left' (by simp)]
      rw [e1] at hc
      exact hc.intsAll }
end Go.Proofs.YtacjnpahlbibhaaDoor
end
section
/- ValidKeeps: what is answered, while it is written over. -/
set_option linter.unusedVariables false
set_option linter.unusedSimpArgs false
set_option maxRecDepth 100000
namespace Go.Proofs.YtacjnpahlbibhaaDoor
open Go Go.RowKit

structure KeepSt (s71 s77 t0 t1 u0 u1 : Sl) (b11 b13 k29 k30 k31 k33 k34 : Nat) (l : List Mark) (sg : Sig) (W7 W : World) : Prop where
  mod : Mod NoB W7 W
  fa : ∃ y, Own W ty_Mark 3 s71 y
  fb : Own W ty_Mark 3 s77 (l.flatMap markC)
  ft0 : ∃ y, Own W ty_int 1 t0 y
  ft1 : ∃ y, Own W ty_int 1 t1 y
  fu0 : Own W ty_int 1 u0 (iv sg.ins)
  fu1 : Own W ty_int 1 u1 (iv sg.outs)
  c11 : W.heap[b11]? = some (.cells #[t0.v, t1.v] 37 (0, 0))
  c13 : W.heap[b13]? = some (.cells #[u0.v, u1.v] 37 (0, 0))
  ra : ∀ k, s71.isB k → W7.heap.size ≤ k ∧ k < k29
  rb : ∀ k, s77.isB k → k29 ≤ k ∧ k < k30
  rt0 : ∀ k, t0.isB k → k30 ≤ k ∧ k < k31
  rt1 : ∀ k, t1.isB k → k30 ≤ k ∧ k < k31
  dt : ∀ k, t0.isB k → ¬ t1.isB k
  r11 : k31 ≤ b11 ∧ b11 < k33
  ru0 : ∀ k, u0.isB k → k33 ≤ k ∧ k < k34
  ru1 : ∀ k, u1.isB k → k33 ≤ k ∧ k < k34
  r13 : k34 ≤ b13
  ord : W7.heap.size ≤ k29 ∧ k29 ≤ k30 ∧ k30 ≤ k31 ∧ k31 ≤ k33 ∧ k33 ≤ k34
variable {s71 s77 t0 t1 u0 u1 : Sl} {b11 b13 k29 k30 k31 k33 k34 : Nat} {l : List Mark} {sg : Sig} {W7 W W' : World}
theorem KeepSt.mod0 (h : KeepSt s71 s77 t0 t1 u0 u1 b11 b13 k29 k30 k31 k33 k34 l sg W7 W) (hm : Mod NoB W W') : KeepSt s71 s77 t0 t1 u0 u1 b11 b13 k29 k30 k31 k33 k34 l sg W7 W' :=
  { h with
    mod := h.mod.trans0 hm
    fa := let ⟨y, hy⟩ := h.fa; ⟨y, hy.mod0 hm⟩
    fb := h.fb.mod0 hm
    ft0 := let ⟨y, hy⟩ := h.ft0; ⟨y, hy.mod0 hm⟩
    ft1 := let ⟨y, hy⟩ := h.ft1; ⟨y, hy.mod0 hm⟩
    fu0 := h.fu0.mod0 hm
    fu1 := h.fu1.mod0 hm
    c11 := hm.heap h.c11 (fun h => h)
    c13 := hm.heap h.c13 (fun h => h) }
theorem KeepSt.wa (h : KeepSt s71 s77 t0 t1 u0 u1 b11 b13 k29 k30 k31 k33 k34 l sg W7 W) (hm : Mod s71.isB W W') {y : List Value} (ho : Own W' ty_Mark 3 s71 y) : KeepSt s71 s77 t0 t1 u0 u1 b11 b13 k29 k30 k31 k33 k34 l sg W7 W' := by
  have o := h.ord
  have ra := h.ra
  have r11 := h.r11
  have r13 := h.r13
  exact { h with
    mod := h.mod.trans hm (fun i hi x => by have := ra i x; omega)
    fa := ⟨y, ho⟩
    fb := h.fb.mod hm (fun k x z => by have := h.rb k x; have := ra k z; omega)
    ft0 := let ⟨y, hy⟩ := h.ft0; ⟨y, hy.mod hm (fun k x z => by have := h.rt0 k x; have := ra k z; omega)⟩
    ft1 := let ⟨y, hy⟩ := h.ft1; ⟨y, hy.mod hm (fun k x z => by have := h.rt1 k x; have := ra k z; omega)⟩
    fu0 := h.fu0.mod hm (fun k x z => by have := h.ru0 k x; have := ra k z; omega)
    fu1 := h.fu1.mod hm (fun k x z => by have := h.ru1 k x; have := ra k z; omega)
    c11 := hm.heap h.c11 (fun z => by have := ra _ z; omega)
    c13 := hm.heap h.c13 (fun z => by have := ra _ z; omega) }
theorem KeepSt.w0 (h : KeepSt s71 s77 t0 t1 u0 u1 b11 b13 k29 k30 k31 k33 k34 l sg W7 W) (hm : Mod t0.isB W W') {y : List Value} (ho : Own W' ty_int 1 t0 y) : KeepSt s71 s77 t0 t1 u0 u1 b11 b13 k29 k30 k31 k33 k34 l sg W7 W' := by
  have o := h.ord
  have ra := h.rt0
  have r11 := h.r11
  have r13 := h.r13
  exact { h with
    mod := h.mod.trans hm (fun i hi x => by have := ra i x; omega)
    fa := let ⟨y, hy⟩ := h.fa; ⟨y, hy.mod hm (fun k x z => by have := h.ra k x; have := ra k z; omega)⟩
    fb := h.fb.mod hm (fun k x z => by have := h.rb k x; have := ra k z; omega)
    ft0 := ⟨y, ho⟩
    ft1 := let ⟨y, hy⟩ := h.ft1; ⟨y, hy.mod hm (fun k x z => h.dt k z x)⟩
    fu0 := h.fu0.mod hm (fun k x z => by have := h.ru0 k x; have := ra k z; omega)
    fu1 := h.fu1.mod hm (fun k x z => by have := h.ru1 k x; have := ra k z; omega)
    c11 := hm.heap h.c11 (fun z => by have := ra _ z; omega)
    c13 := hm.heap h.c13 (fun z => by have := ra _ z; omega) }
theorem KeepSt.w1 (h : KeepSt s71 s77 t0 t1 u0 u1 b11 b13 k29 k30 k31 k33 k34 l sg W7 W) (hm : Mod t1.isB W W') {y : List Value} (ho : Own W' ty_int 1 t1 y) : KeepSt s71 s77 t0 t1 u0 u1 b11 b13 k29 k30 k31 k33 k34 l sg W7 W' := by
  have o := h.ord
  have ra := h.rt1
  have r11 := h.r11
  have r13 := h.r13
  exact { h with
    mod := h.mod.trans hm (fun i hi x => by have := ra i x; omega)
    fa := let ⟨y, hy⟩ := h.fa; ⟨y, hy.mod hm (fun k x z => by have := h.ra k x; have := ra k z; omega)⟩
    fb := h.fb.mod hm (fun k x z => by have := h.rb k x; have := ra k z; omega)
    ft0 := let ⟨y, hy⟩ := h.ft0; ⟨y, hy.mod hm (fun k x z => h.dt k x z)⟩
    ft1 := ⟨y, ho⟩
    fu0 := h.fu0.mod hm (fun k x z => by have := h.ru0 k x; have := ra k z; omega)
    fu1 := h.fu1.mod hm (fun k x z => by have := h.ru1 k x; have := ra k z; omega)
    c11 := hm.heap h.c11 (fun z => by have := ra _ z; omega)
    c13 := hm.heap h.c13 (fun z => by have := ra _ z; omega) }
theorem walkGo_len (m : Module) (lc : List Int) : ∀ (c : List Instr) (k : Wk) (l : List Mark), walkGo m lc k c = some l → l.length = c.length := by
  intro c
  induction c with
  | nil => intro k l h; simp [walkGo] at h; subst h; rfl
  | cons x r ih =>
    intro k l h
    rw [walkGo] at h
    split at h
    · cases h
    · cases hg : walkGo m lc (k.step m lc (instrOf x.op).1 x) r with
      | none => rw [hg] at h; cases h
      | some l' =>
        rw [hg] at h
        simp at h; subst h
        rw [List.length_cons, List.length_cons, ih _ _ hg]
theorem marks_len {m : Module} (hs : Small m) (f : Int) : (marksM m f).1.length ≤ 1073741824 := by
  unfold marksM
  split
  · simp
  · split
    · simp
    · show ((typedM m f.toNat).getD []).length ≤ _
      cases ht : typedM m f.toNat with
      | none => simp
      | some l =>
        unfold typedM at ht
        split at ht
        · cases ht
        · rename_i c hc
          have h1 := walkGo_len _ _ _ _ _ ht
          have h2 := hs c (List.mem_of_getElem? hc)
          have h3 := codeW_len c.body
          show l.length ≤ _
          omega
theorem sig_lens {m : Module} {r : Rd} {S : MSl} (hm : ModR r S m) (f : Int) : (sigOf m f).1.ins.length ≤ big ∧ (sigOf m f).1.outs.length ≤ big := by
  unfold sigOf kindOf
  split
  · exact hm.tlen _ (List.getElem_mem _)
  · simp
end Go.Proofs.YtacjnpahlbibhaaDoor
end
section
/- ValidKeeps: the run up to the copy's end. -/
set_option linter.unusedVariables false
set_option linter.unusedSimpArgs false
set_option maxRecDepth 100000
namespace Go.Proofs.YtacjnpahlbibhaaDoor
open Go Go.RowKit

theorem setL_funcs (S : MSl) (m : Module) (s : Sl) : setL (ModC S m) 2 [s.v] = ModC { S with funcs := s } m := rfl
theorem setL_types (S : MSl) (m : Module) (s : Sl) : setL (ModC S m) 0 [s.v] = ModC { S with types := s } m := rfl
set_option maxHeartbeats 1000000 in
theorem keeps_spec {W : World} {r : Rd} (hr : Sub r W) {S : MSl} {m : Module} (h : ModAt r S m) (f : Int) (hf : f ≤ 9223372036854775807) :
    Calls Tryd.prog f_plaitlaw15_ValidKeeps #[ModV S m, .int .i64 f] W fun e W' => e = .returned (.bool true) ∧ Mod NoB W W' := by
  have hm := h.rd
  have hw := h.room
  have wt := hw.types
  have wf := hw.funcs
  refine of_plaitlaw15_ValidKeeps _ _ _ _ _ _ _ _ _ _ _ _ _ _ ?_
  unfold V_plaitlaw15_ValidKeeps
  refine Na.mk fun b2 W1 hb2 hm1 hz1 hc1 => ?_
  replace hc1 : W1.heap[b2]? = some (.cells (ModC S m) 32 (0, 0)) := hc1
  refine CallV.mk ent_plaitlaw15_awake (awake_spec (hr.mod0 hm1) h.tabs) ?_
  rintro e W2 ⟨rfl, hm2⟩
  have hm02 := hm1.trans0 hm2
  have c2 := hm2.heap hc1 (fun h => h)
  have lt2 := heap_lt c2
  refine ⟨_, rfl, true, rfl, Br.mk (fun h => by simp at h) (fun _ => ?_)⟩
  refine ⟨_, mod_cells c2 rfl, _, mod_cells c2 rfl, _, mod_cells c2 rfl, _, mod_cells c2 rfl, _, mod_cells c2 rfl, _, mod_cells c2 rfl, _, mod_cells c2 rfl, _, mod_cells c2 rfl, _, mod_cells c2 rfl, _, mod_cells c2 rfl, _, mod_cells c2 rfl, ?_⟩
  refine Na.mk fun b5 W3 hb5 hm3 hz3 hc3 => ?_
  have lt5 := heap_lt hc3
  refine stC_at (b := b5) (o := 0) rfl hc3 (by simp) (by simp [Value.oneCell', Sl.v]) (fun W4 c5 m4 z4 => ?_)
  rw [setL_all (by simp)] at c5
  replace c5 : W4.heap[b5]? = some (.cells (ModC S m) 32 (0, 0)) := c5
  have hm24 : Mod NoB W2 W4 := hm3.trans m4 (fun i hi e => by omega)
  have hm04 := hm02.trans0 hm24
  have c24 := hm24.heap c2 (fun h => h)
  have z02 := hm02.size
  have ne25 : b5 ≠ b2 := by omega
  have hb5W : W.heap.size ≤ b5 := by omega
  have lt54 := heap_lt c5
  have lt24 := heap_lt c24
  intro J hJ
  have finA : ∀ (s32 : Sl) (W68 : World), Nint W4 W68 s32 (m.funcs ++ [91]) → stC W68 ((⟨b5, 0, none⟩ : Addr).add 2) [(⟨s32.a, m.funcs.length, s32.cap⟩ : Sl).v] 0 J := by
    intro s32 W68 n32
    have h32 : ∀ b, s32.isB b → b ≠ b5 ∧ b ≠ b2 := fun b x => by have := n32.fresh b x; omega
    refine stC_at (b := b5) (o := 2) (by rw [add_mk]) (n32.mod.heap c5 (fun h => h)) (by simp) (by simp [Value.oneCell', Sl.v]) (fun W5 d5 m5 z5 => ?_)
    rw [setL_funcs] at d5
    refine hJ _ ?_
    refine stC_at (b := b5) (o := 0) (by rw [add_mk]) d5 (by simp) (by simp [Value.oneCell', Sl.v]) (fun W6 e5 m6 z6 => ?_)
    rw [show [Value.slice none 0 0] = [(⟨none, 0, 0⟩ : Sl).v] from rfl, setL_types] at e5
    have St6 : CopSt b2 b5 S m s32 W W6 ⟨none, 0, 0⟩ [] := {
      c2 := m6.heap (m5.heap (n32.mod.heap c24 (fun h => h)) (fun e => ne25 e.symm)) (fun e => ne25 e.symm)
      c5 := e5
      mod := ((hm04.trans0 n32.mod).trans m5 (fun i hi e => by omega)).trans m6 (fun i hi e => by omega)
      fn := (n32.own.mod m5 (fun b hb e => (h32 b hb).1 e)).mod m6 (fun b hb e => (h32 b hb).1 e)
      own := Own.nil _ _ _
      each := fun i p x hp => by simp at hp
      dis := fun p hp => by cases hp
      d1 := fun b x => (nil_notB b x).elim
      d2 := h32
      ne := ne25
      b5 := hb5W }
    intro L hL
    have key : ∀ (n k : Nat) (tt : Sl) (cp : List (Sl × Sl)) (W7 : World), n = m.types.length - k → k ≤ m.types.length → cp.length = k → CopSt b2 b5 S m s32 W W7 tt cp → L (k : Int) W7 := by
      intro n
      induction n with
      | zero =>
        intro k tt cp W7 hn hk hcp St7
        refine hL _ _ ⟨S.types, mod_cells St7.c2 rfl, ?_⟩
        rw [hm.types.1]
        refine Br.dec (fun h => by omega) (fun _ => ?_)
        have hcp' : cp.length = m.types.length := by omega
        -- [end: printed by mkLawE.py]
        have wA : ModAt W7.cell? (cpS S m tt s32) m := ⟨h.tabs.mono (fun p v hp => St7.mod.cell (hr p v hp) (fun h => h)), St7.done hcp' hr hm, hw, h.small⟩
        have hmS : ModR W7.cell? S m := ModR.mono (fun p v hp => St7.mod.cell (hr p v hp) (fun h => h)) hm
        obtain ⟨l, hl⟩ : ∃ l, l = (marksM m f).1 := ⟨_, rfl⟩
        obtain ⟨ec, hec⟩ : ∃ ec, ec = (marksM m f).2 := ⟨_, rfl⟩
        have hll : l.length ≤ 1073741824 := by rw [hl]; exact marks_len h.small f
        obtain ⟨sg, hsg⟩ : ∃ sg, sg = sigOf m f := ⟨_, rfl⟩
        have hsl := sig_lens hm f
        rw [← hsg] at hsl
        -- the first answers
        refine ⟨_, mod_cells (St7.c5) rfl, _, mod_cells (St7.c5) rfl, _, mod_cells (St7.c5) rfl, _, mod_cells (St7.c5) rfl, _, mod_cells (St7.c5) rfl, _, mod_cells (St7.c5) rfl, _, mod_cells (St7.c5) rfl, _, mod_cells (St7.c5) rfl, _, mod_cells (St7.c5) rfl, _, mod_cells (St7.c5) rfl, _, mod_cells (St7.c5) rfl, ?_⟩
        refine CallV.mk ent_valid_Marks (Marks_spec (Sub.self W7) wA f) ?_
        unfold MarksPost
        rw [← hl, ← hec]
        rintro e W29 ⟨s71, rfl, o71, f71, hm29⟩
        have A29 := wA.step hm29
        have c529 := hm29.heap St7.c5 (fun h => h)
        refine ⟨_, rfl, s71, ec, rfl, _, mod_cells (c529) rfl, _, mod_cells (c529) rfl, _, mod_cells (c529) rfl, _, mod_cells (c529) rfl, _, mod_cells (c529) rfl, _, mod_cells (c529) rfl, _, mod_cells (c529) rfl, _, mod_cells (c529) rfl, _, mod_cells (c529) rfl, _, mod_cells (c529) rfl, _, mod_cells (c529) rfl, ?_⟩
        refine CallV.mk ent_valid_Marks (Marks_spec (Sub.self W29) A29 f) ?_
        unfold MarksPost
        rw [← hl, ← hec]
        rintro e W30 ⟨s77, rfl, o77, f77, hm30⟩
        have A30 := A29.step hm30
        have c530 := hm30.heap c529 (fun h => h)
        have hm730 := hm29.trans0 hm30
        refine ⟨_, rfl, s77, ec, rfl, _, mod_cells (c530) rfl, _, mod_cells (c530) rfl, _, mod_cells (c530) rfl, _, mod_cells (c530) rfl, _, mod_cells (c530) rfl, _, mod_cells (c530) rfl, _, mod_cells (c530) rfl, _, mod_cells (c530) rfl, _, mod_cells (c530) rfl, _, mod_cells (c530) rfl, _, mod_cells (c530) rfl, ?_⟩
        refine CallV.mk ent_valid_Sig (Sig_spec (Sub.self W30) A30.rd f hf A30.rd.tlen) ?_
        rw [← hsg]
        rintro e W31 ⟨t0, t1, rfl, n0, n1, hdt⟩
        refine ⟨_, rfl, t0, t1, _, rfl, ?_⟩
        refine Na.mk fun b11 W32 hb11 hm32 hz32 hc32 => ?_
        have lt11 := heap_lt hc32
        refine stC_at (b := b11) (o := 0) rfl hc32 (by simp) (by simp [Value.oneCell', Sl.v]) (fun W33 c11 m33 z33 => ?_)
        rw [setL_all (by simp)] at c11
        have hm3133 : Mod NoB W31 W33 := hm32.trans m33 (fun i hi e => by omega)
        have hm3033 := n0.mod.trans0 hm3133
        have A33 := A30.step hm3033
        have c533 := hm3033.heap c530 (fun h => h)
        refine ⟨_, mod_cells (c533) rfl, _, mod_cells (c533) rfl, _, mod_cells (c533) rfl, _, mod_cells (c533) rfl, _, mod_cells (c533) rfl, _, mod_cells (c533) rfl, _, mod_cells (c533) rfl, _, mod_cells (c533) rfl, _, mod_cells (c533) rfl, _, mod_cells (c533) rfl, _, mod_cells (c533) rfl, ?_⟩
        refine CallV.mk ent_valid_Sig (Sig_spec (Sub.self W33) A33.rd f hf A33.rd.tlen) ?_
        rw [← hsg]
        rintro e W34 ⟨u0, u1, rfl, v0, v1, hdu⟩
        refine ⟨_, rfl, u0, u1, _, rfl, ?_⟩
        refine Na.mk fun b13 W35 hb13 hm35 hz35 hc35 => ?_
        have lt13 := heap_lt hc35
        refine stC_at (b := b13) (o := 0) rfl hc35 (by simp) (by simp [Value.oneCell', Sl.v]) (fun W36 c13 m36 z36 => ?_)
        rw [setL_all (by simp)] at c13
        have hm3436 : Mod NoB W34 W36 := hm35.trans m36 (fun i hi e => by omega)
        have hm3336 := v0.mod.trans0 hm3436
        have hm736 : Mod NoB W7 W36 := (hm730.trans0 hm3033).trans0 hm3336
        have z29 := hm29.size
        have z30 := hm30.size
        have z31 := n0.mod.size
        have z34 := v0.mod.size
        have K36 : KeepSt s71 s77 t0 t1 u0 u1 b11 b13 W29.heap.size W30.heap.size W31.heap.size W33.heap.size W34.heap.size l sg.1 W7 W36 := {
          mod := hm736
          fa := ⟨_, ((o71.mod0 hm30).mod0 hm3033).mod0 hm3336⟩
          fb := (o77.mod0 hm3033).mod0 hm3336
          ft0 := ⟨_, (n0.own.mod0 hm3133).mod0 hm3336⟩
          ft1 := ⟨_, (n1.own.mod0 hm3133).mod0 hm3336⟩
          fu0 := v0.own.mod0 hm3436
          fu1 := v1.own.mod0 hm3436
          c11 := hm3336.heap c11 (fun h => h)
          c13 := c13
          ra := fun k x => ⟨f71 k x, o71.lt x⟩
          rb := fun k x => ⟨f77 k x, o77.lt x⟩
          rt0 := fun k x => ⟨n0.fresh k x, n0.own.lt x⟩
          rt1 := fun k x => ⟨n1.fresh k x, n1.own.lt x⟩
          dt := fun k x y => hdt k x y
          r11 := ⟨by omega, by omega⟩
          ru0 := fun k x => ⟨v0.fresh k x, v0.own.lt x⟩
          ru1 := fun k x => ⟨v1.fresh k x, v1.own.lt x⟩
          r13 := by omega
          ord := ⟨z29, z30, z31, by omega, z34⟩ }
        have o71' := ((o71.mod0 hm30).mod0 hm3033).mod0 hm3336
        have hs71 : s71.len = l.length := by have := o71.1; rw [flat_len markC_len] at this; omega
        have ht0l : t0.len ≤ big := by have := n0.own.1; simp at this; omega
        have ht1l : t1.len ≤ big := by have := n1.own.1; simp at this; omega
        unfold big at ht0l ht1l
        have same7 : ∀ W', Mod NoB W7 W' → Calls Tryd.prog f_plaitref13_Same #[ModV S m, ModV (cpS S m tt s32) m] W' fun e W'' => e = .returned (.bool true) ∧ Mod NoB W' W'' := fun W' hm7 =>
          Same_same (r := W7.cell?) (fun p v hp => hm7.cell hp (fun h => h)) hmS wA.rd hw
        have hfin : ∀ W', Mod NoB W7 W' → Mod NoB W W' := fun W' hm7 => St7.mod.trans0 hm7
        intro J1 hJ1 J2 hJ2
        have endJ : ∀ W37, KeepSt s71 s77 t0 t1 u0 u1 b11 b13 W29.heap.size W30.heap.size W31.heap.size W33.heap.size W34.heap.size l sg.1 W7 W37 → J1 W37 := by
          intro W37 K37
          refine hJ1 _ ?_
          intro L1 hL1
          have key1 : ∀ (n k : Nat) (W38 : World), n = s71.len - k → k ≤ s71.len → KeepSt s71 s77 t0 t1 u0 u1 b11 b13 W29.heap.size W30.heap.size W31.heap.size W33.heap.size W34.heap.size l sg.1 W7 W38 → L1 (k : Int) W38 := by
            intro n
            induction n with
            | zero =>
              intro k W38 hn hk K38
              refine hL1 _ _ (Br.dec (fun h => by omega) (fun _ => ?_))
              intro L2 hL2
              have key2 : ∀ (n k : Nat) (W40 : World), n = t0.len - k → k ≤ t0.len → KeepSt s71 s77 t0 t1 u0 u1 b11 b13 W29.heap.size W30.heap.size W31.heap.size W33.heap.size W34.heap.size l sg.1 W7 W40 → L2 (k : Int) W40 := by
                intro n
                induction n with
                | zero =>
                  intro k W40 hn hk K40
                  refine hL2 _ _ ⟨t0, cell_of_heap K40.c11 rfl, Br.dec (fun h => by omega) (fun _ => ?_)⟩
                  intro L3 hL3
                  have key3 : ∀ (n k : Nat) (W42 : World), n = t1.len - k → k ≤ t1.len → KeepSt s71 s77 t0 t1 u0 u1 b11 b13 W29.heap.size W30.heap.size W31.heap.size W33.heap.size W34.heap.size l sg.1 W7 W42 → L3 (k : Int) W42 := by
                    intro n
                    induction n with
                    | zero =>
                      intro k W42 hn hk K42
                      refine hL3 _ _ ⟨t1, cell_of_heap K42.c11 rfl, Br.dec (fun h => by omega) (fun _ => ?_)⟩
                      -- behind the writing
                      refine Na.mk fun b157 W44 hb157 hm44 hz44 hc44 => ?_
                      have K44 := K42.mod0 hm44
                      obtain ⟨ya, hya⟩ := K44.fa
                      have hsrc : Src Tryd.prog 3 ty_sl_Mark (⟨some ⟨b157, 0, none⟩, 2, 2⟩ : Sl).v 2 [.bool false, .int .i64 (-2), .int .i64 0, .bool false, .int .i64 (-2), .int .i64 0] W44 := by
                        refine Src.read tyf_sl_Mark.und rfl (fun j u hu => ⟨_, rfl, ?_⟩) (by intro u hu; simp only [List.mem_cons, List.not_mem_nil, or_false] at hu; rcases hu with rfl | rfl | rfl | rfl | rfl | rfl <;> rfl)
                        rw [add_mk]
                        refine cell_of_heap hc44 ?_
                        rw [Nat.zero_add]
                        rw [show ∀ (l : List Value) (i : Nat), l.toArray[i]? = l[i]? from fun l i => by simp]
                        exact hu
                      refine tyf_sl_Mark.append rfl hya hsrc (by rw [hs71]; omega) (by rw [hs71]; unfold maxLen; omega) (fun s158 W45 o45 l45 m45 g45 => ⟨s158, rfl, t0, ?_⟩)
                      have nb11 : ¬ s71.isB b11 := fun z => by have := K42.ra _ z; have := K42.r11; have := K42.ord; omega
                      have c45 := m45.heap K44.c11 nb11
                      refine ⟨cell_of_heap c45 rfl, ?_⟩
                      refine Na.mk fun b161 W46 hb161 hm46 hz46 hc46 => ?_
                      -- the state without what is written over
                      have z44 := K44.mod.size
                      have ra := K44.ra
                      have ord := K44.ord
                      have r13 := K44.r13
                      have hm746 : Mod NoB W7 W46 := (K44.mod.trans m45 (fun i hi z => by have := ra i z; omega)).trans0 hm46
                      obtain ⟨y0, hy0⟩ := K44.ft0
                      have hy0' := (hy0.mod m45 (fun b x z => by have := K44.rt0 b x; have := ra b z; omega)).mod0 hm46
                      have fb46 := (K44.fb.mod m45 (fun b x z => by have := K44.rb b x; have := ra b z; omega)).mod0 hm46
                      have fu046 := (K44.fu0.mod m45 (fun b x z => by have := K44.ru0 b x; have := ra b z; omega)).mod0 hm46
                      have fu146 := (K44.fu1.mod m45 (fun b x z => by have := K44.ru1 b x; have := ra b z; omega)).mod0 hm46
                      have c1146 := hm46.heap c45 (fun h => h)
                      have c1346 := hm46.heap (m45.heap K44.c13 (fun z => by have := ra _ z; omega)) (fun h => h)
                      have hsrc2 : Src Tryd.prog 1 ty_sl_int (⟨some ⟨b161, 0, none⟩, 3, 3⟩ : Sl).v 3 [.int .i64 (-3), .int .i64 (-3), .int .i64 (-3)] W46 := by
                        refine Src.read tyf_sl_int.und rfl (fun j u hu => ⟨_, rfl, ?_⟩) (by intro u hu; simp at hu; subst hu; rfl)
                        rw [add_mk]
                        refine cell_of_heap hc46 ?_
                        rw [Nat.zero_add]
                        rw [show ∀ (l : List Value) (i : Nat), l.toArray[i]? = l[i]? from fun l i => by simp]
                        exact hu
                      refine tyf_sl_int.append rfl hy0' hsrc2 (by omega) (by unfold maxLen; omega) (fun s162 W47 o47 l47 m47 g47 => ⟨s162, rfl, ?_⟩)
                      have rt0 := K44.rt0
                      have r11 := K44.r11
                      have hm747 : Mod NoB W7 W47 := hm746.trans m47 (fun i hi z => by have := rt0 i z; omega)
                      have fb47 := fb46.mod m47 (fun b x z => by have := K44.rb b x; have := rt0 b z; omega)
                      have fu047 := fu046.mod m47 (fun b x z => by have := K44.ru0 b x; have := rt0 b z; omega)
                      have fu147 := fu146.mod m47 (fun b x z => by have := K44.ru1 b x; have := rt0 b z; omega)
                      have c1147 := m47.heap c1146 (fun z => by have := rt0 _ z; omega)
                      have c1347 := m47.heap c1346 (fun z => by have := rt0 _ z; omega)
                      have A47 := wA.step hm747
                      have c547 := hm747.heap St7.c5 (fun h => h)
                      refine ⟨_, mod_cells (c547) rfl, _, mod_cells (c547) rfl, _, mod_cells (c547) rfl, _, mod_cells (c547) rfl, _, mod_cells (c547) rfl, _, mod_cells (c547) rfl, _, mod_cells (c547) rfl, _, mod_cells (c547) rfl, _, mod_cells (c547) rfl, _, mod_cells (c547) rfl, _, mod_cells (c547) rfl, ?_⟩
                      refine CallV.mk ent_valid_Marks (Marks_spec (Sub.self W47) A47 f) ?_
                      unfold MarksPost
                      rw [← hl, ← hec]
                      rintro e W48 ⟨s166, rfl, o166, f166, hm48⟩
                      have A48 := A47.step hm48
                      have c548 := hm48.heap c547 (fun h => h)
                      refine ⟨_, rfl, s166, ec, rfl, _, mod_cells (c548) rfl, _, mod_cells (c548) rfl, _, mod_cells (c548) rfl, _, mod_cells (c548) rfl, _, mod_cells (c548) rfl, _, mod_cells (c548) rfl, _, mod_cells (c548) rfl, _, mod_cells (c548) rfl, _, mod_cells (c548) rfl, _, mod_cells (c548) rfl, _, mod_cells (c548) rfl, ?_⟩
                      refine CallV.mk ent_valid_Sig (Sig_spec (Sub.self W48) A48.rd f hf A48.rd.tlen) ?_
                      rw [← hsg]
                      rintro e W49 ⟨w0, w1, rfl, x0, x1, hdx⟩
                      refine ⟨_, rfl, w0, w1, _, rfl, ?_⟩
                      refine Na.mk fun b22 W50 hb22 hm50 hz50 hc50 => ?_
                      have lt22 := heap_lt hc50
                      refine stC_at (b := b22) (o := 0) rfl hc50 (by simp) (by simp [Value.oneCell', Sl.v]) (fun W51 c22 m51 z51 => ?_)
                      rw [setL_all (by simp)] at c22
                      have hm4951 : Mod NoB W49 W51 := hm50.trans m51 (fun i hi e => by omega)
                      have hm4851 := x0.mod.trans0 hm4951
                      have hm4751 := hm48.trans0 hm4851
                      have c1151 := hm4751.heap c1147 (fun h => h)
                      have c1351 := hm4751.heap c1347 (fun h => h)
                      have e1 : ((s158.len : Int) == (IntKind.wrap .i64 ((s71.len : Int) + 2))) = true := by rw [l45, wrap_id (by omega) (by omega)]; simp
                      have e2 : ((s162.len : Int) == (IntKind.wrap .i64 ((t0.len : Int) + 3))) = true := by rw [l47, wrap_id (by omega) (by omega)]; simp
                      refine ⟨t0, fun _ => cell_of_heap c1151 rfl, ?_⟩
                      rw [e1, e2, show (ec == ec) = true from by simp]
                      refine ⟨fun _ => ?_, fun h => by simp at h⟩
                      refine CallV.mk ent_plaitlaw15_same (same_spec (Sub.self W51) (marks_read (o166.mod0 hm4851)) (marks_read (fb47.mod0 hm4751)) (by unfold big; omega)) ?_
                      rintro e W52 ⟨rfl, hm52⟩
                      have d13 := hm52.heap c1351 (fun h => h)
                      have d22 := hm52.heap c22 (fun h => h)
                      refine ⟨_, rfl, _, rfl, u0, (fun _ => cell_of_heap d13 rfl), u1, (fun _ => cell_of_heap d13 rfl), w0, (fun _ => cell_of_heap d22 rfl), w1, (fun _ => cell_of_heap d22 rfl), (fun _ => ?_), (fun h => by simp at h)⟩
                      have hm4752 := hm4751.trans0 hm52
                      refine CallV.mk ent_plaitref13_SameSig (SameSig_spec (Sub.self W52) (fu047.mod0 hm4752).intsAll (fu147.mod0 hm4752).intsAll ((x0.own.mod0 hm4951).mod0 hm52).intsAll ((x1.own.mod0 hm4951).mod0 hm52).intsAll hsl.1 hsl.2) ?_
                      rintro e W53 ⟨rfl, hm53⟩
                      have hm753 := (hm747.trans0 hm4752).trans0 hm53
                      have St53 := St7.mod0 hm753
                      have c253 := St53.c2
                      have c553 := St53.c5
                      refine ⟨_, rfl, _, rfl, _, (fun _ => mod_cells (c253) rfl), _, (fun _ => mod_cells (c253) rfl), _, (fun _ => mod_cells (c253) rfl), _, (fun _ => mod_cells (c253) rfl), _, (fun _ => mod_cells (c253) rfl), _, (fun _ => mod_cells (c253) rfl), _, (fun _ => mod_cells (c253) rfl), _, (fun _ => mod_cells (c253) rfl), _, (fun _ => mod_cells (c253) rfl), _, (fun _ => mod_cells (c253) rfl), _, (fun _ => mod_cells (c253) rfl), _, (fun _ => mod_cells (c553) rfl), _, (fun _ => mod_cells (c553) rfl), _, (fun _ => mod_cells (c553) rfl), _, (fun _ => mod_cells (c553) rfl), _, (fun _ => mod_cells (c553) rfl), _, (fun _ => mod_cells (c553) rfl), _, (fun _ => mod_cells (c553) rfl), _, (fun _ => mod_cells (c553) rfl), _, (fun _ => mod_cells (c553) rfl), _, (fun _ => mod_cells (c553) rfl), _, (fun _ => mod_cells (c553) rfl), (fun _ => ?_), (fun h => by simp at h)⟩
                      refine CallV.mk ent_plaitref13_Same (same7 W53 hm753) ?_
                      rintro e W54 ⟨rfl, hm54⟩
                      exact ⟨_, rfl, _, rfl, rfl, hfin _ (hm753.trans0 hm54)⟩
                    | succ n ih =>
                      intro k W42 hn hk K42
                      have hlt : k < t1.len := by omega
                      obtain ⟨y1, hy1⟩ := K42.ft1
                      have hy1l : y1.length = t1.len * 1 := hy1.1
                      obtain ⟨q1, hq1, _⟩ := hy1.cell (i := k) (v := y1[k]'(by omega)) (List.getElem?_eq_getElem (by omega))
                      refine hL3 _ _ ⟨t1, cell_of_heap K42.c11 rfl, Br.dec (fun _ => ?_) (fun h => absurd (by omega) h)⟩
                      refine ⟨t1, cell_of_heap K42.c11 rfl, q1, ⟨hq1, by omega, by omega⟩, ?_⟩
                      refine hy1.set hq1 (i := ((k : Int).toNat) * 1) (by rw [Int.toNat_natCast]; omega) rfl (fun W43 o43 m43 z43 => ?_)
                      rw [wrap_id (by omega) (by omega)]
                      exact ih (k + 1) W43 (by omega) hlt (K42.w1 m43 o43)
                  exact key3 t1.len 0 W40 (by omega) (by omega) K40
                | succ n ih =>
                  intro k W40 hn hk K40
                  have hlt : k < t0.len := by omega
                  obtain ⟨y1, hy1⟩ := K40.ft0
                  have hy1l : y1.length = t0.len * 1 := hy1.1
                  obtain ⟨q1, hq1, _⟩ := hy1.cell (i := k) (v := y1[k]'(by omega)) (List.getElem?_eq_getElem (by omega))
                  refine hL2 _ _ ⟨t0, cell_of_heap K40.c11 rfl, Br.dec (fun _ => ?_) (fun h => absurd (by omega) h)⟩
                  refine ⟨t0, cell_of_heap K40.c11 rfl, q1, ⟨hq1, by omega, by omega⟩, ?_⟩
                  refine hy1.set hq1 (i := ((k : Int).toNat) * 1) (by rw [Int.toNat_natCast]; omega) rfl (fun W43 o43 m43 z43 => ?_)
                  rw [wrap_id (by omega) (by omega)]
                  exact ih (k + 1) W43 (by omega) hlt (K40.w0 m43 o43)
              exact key2 t0.len 0 W38 (by omega) (by omega) K38
            | succ n ih =>
              intro k W38 hn hk K38
              have hlt : k < s71.len := by omega
              obtain ⟨y1, hy1⟩ := K38.fa
              have hy1l : y1.length = s71.len * 3 := hy1.1
              obtain ⟨q1, hq1, _⟩ := hy1.cell (i := k) (v := y1[k]'(by omega)) (List.getElem?_eq_getElem (by omega))
              refine hL1 _ _ (Br.dec (fun _ => ?_) (fun h => absurd (by omega) h))
              refine ⟨q1, ⟨hq1, by omega, by omega⟩, ?_⟩
              refine hy1.sets hq1 (i := ((k : Int).toNat) * 3) (by rw [Int.toNat_natCast]; simp; omega) (by simp) (by intro u hu; simp at hu; rcases hu with rfl | rfl | rfl <;> rfl) (fun W43 o43 m43 z43 => ?_)
              rw [wrap_id (by omega) (by omega)]
              exact ih (k + 1) W43 (by omega) hlt (K38.wa m43 o43)
          exact key1 s71.len 0 W37 (by omega) (by omega) K37
        -- the first look
        refine Dw.mk fun W60 hm60 _ => ?_
        have hm760 := hm736.trans0 hm60
        refine ⟨fun w => CopSt b2 b5 S m s32 W w tt cp, St7.mod0 hm760, (fun _ => ?_), (fun h => by simp at h)⟩
        have K60 := K36.mod0 hm60
        refine CallV.mk ent_plaitlaw15_same (same_spec (Sub.self W60) (marks_read (o71'.mod0 hm60)) (marks_read K60.fb) (by unfold big; omega)) ?_
        rintro e W61 ⟨rfl, hm61⟩
        have hm761 := hm760.trans0 hm61
        refine ⟨_, rfl, _, rfl, St7.mod0 hm761, _, (fun _ w hw => mod_cells (hw.c2) rfl), _, (fun _ w hw => mod_cells (hw.c2) rfl), _, (fun _ w hw => mod_cells (hw.c2) rfl), _, (fun _ w hw => mod_cells (hw.c2) rfl), _, (fun _ w hw => mod_cells (hw.c2) rfl), _, (fun _ w hw => mod_cells (hw.c2) rfl), _, (fun _ w hw => mod_cells (hw.c2) rfl), _, (fun _ w hw => mod_cells (hw.c2) rfl), _, (fun _ w hw => mod_cells (hw.c2) rfl), _, (fun _ w hw => mod_cells (hw.c2) rfl), _, (fun _ w hw => mod_cells (hw.c2) rfl), _, (fun _ w hw => mod_cells (hw.c5) rfl), _, (fun _ w hw => mod_cells (hw.c5) rfl), _, (fun _ w hw => mod_cells (hw.c5) rfl), _, (fun _ w hw => mod_cells (hw.c5) rfl), _, (fun _ w hw => mod_cells (hw.c5) rfl), _, (fun _ w hw => mod_cells (hw.c5) rfl), _, (fun _ w hw => mod_cells (hw.c5) rfl), _, (fun _ w hw => mod_cells (hw.c5) rfl), _, (fun _ w hw => mod_cells (hw.c5) rfl), _, (fun _ w hw => mod_cells (hw.c5) rfl), _, (fun _ w hw => mod_cells (hw.c5) rfl), (fun _ => ?_), (fun h => by simp at h)⟩
        refine CallV.mk ent_plaitref13_Same (same7 W61 hm761) ?_
        rintro e W62 ⟨rfl, hm62⟩
        have hm762 := hm761.trans0 hm62
        have hcap := St7.fn.le_cap
        have h32l : s32.len = m.funcs.length + 1 := by have := St7.fn.1; simpa using this.symm
        have hfl := hm.funcs.1
        obtain ⟨q32, hq32, _⟩ := St7.fn.cell (i := m.funcs.length) (v := .int .i64 91) (by simp [iv])
        have wle : IntKind.wrap .i64 ((S.funcs.len : Int) + 1) = ((m.funcs.length + 1 : Nat) : Int) := by rw [hfl, wrap_id (by omega) (by omega)]; omega
        refine ⟨_, rfl, _, rfl, St7.mod0 hm762, (⟨s32.a, m.funcs.length, s32.cap⟩ : Sl), (fun _ w hw => mod_cells hw.c5 rfl), S.funcs, (fun _ w hw => mod_cells hw.c2 rfl), (fun _ => by rw [wle]; exact ⟨by omega, by show ((m.funcs.length + 1 : Nat) : Int) ≤ (s32.cap : Int); omega⟩), S.funcs, (fun _ w hw => mod_cells hw.c2 rfl), q32, (fun _ => ⟨by rw [resl]; exact hq32, by omega, by rw [wle, hfl]; omega⟩), 91, (fun _ w hw => ?_), ?_⟩
        · obtain ⟨q', hq', hc'⟩ := hw.fn.cell (i := m.funcs.length) (v := .int .i64 91) (by simp [iv])
          rw [hq32] at hq'; cases hq'
          rw [hfl, Int.toNat_natCast, Nat.mul_one]; exact hc'
        · exact hJ2 _ _ (Br.mk (fun h => by simp at h) (fun _ => endJ W62 (K60.mod0 (hm61.trans0 hm62))))
        -- [end of the end]
      | succ n ih =>
        intro k tt cp W7 hn hk hcp St7
        have hlt : k < m.types.length := by omega
        refine hL _ _ ⟨S.types, mod_cells St7.c2 rfl, ?_⟩
        rw [hm.types.1]
        refine Br.dec (fun _ => ?_) (fun h => absurd (by omega) h)
        refine Dw.mk fun W8 hm8 _ => ?_
        have St8 := St7.mod0 hm8
        obtain ⟨q, hq, s0, s1, c0, c1, i0, i1, l0, l1⟩ := hm.types.get hlt
        replace l0 : m.types[k].ins.length ≤ big := l0
        replace l1 : m.types[k].outs.length ≤ big := l1
        have nq : S.types.a = some q ∧ (0 : Int) ≤ (k : Int) ∧ (k : Int) < (S.types.len : Int) := ⟨hq, by omega, by rw [hm.types.1]; omega⟩
        obtain ⟨KS, hKS⟩ : ∃ KS : World → Prop, KS = fun w => w.heap[b2]? = some (.cells (ModC S m) 32 (0, 0)) ∧ w.heap[b5]? = some (.cells (ModC (cpS S m tt s32) m) 32 (0, 0)) ∧ Sub r w := ⟨_, rfl⟩
        have ks : ∀ w, Mod NoB W8 w → KS w := fun w hmw => by
          rw [hKS]
          exact ⟨hmw.heap St8.c2 (fun h => h), hmw.heap St8.c5 (fun h => h), (hr.mod0 St8.mod).mod0 hmw⟩
        have kA : ∀ w, KS w → ∀ (j : Nat) v, (ModC S m)[j]? = some v → w.cell? ((⟨b2, 0, none⟩ : Addr).add j) = some v := fun w hw j v hv => by
          rw [hKS] at hw; exact mod_cells hw.1 hv
        have kB : ∀ w, KS w → ∀ (j : Nat) v, (ModC (cpS S m tt s32) m)[j]? = some v → w.cell? ((⟨b5, 0, none⟩ : Addr).add j) = some v := fun w hw j v hv => by
          rw [hKS] at hw; exact mod_cells hw.2.1 hv
        have kC : ∀ w, KS w → Sub r w := fun w hw => by
          rw [hKS] at hw; exact hw.2.2
        have core : ∀ (W12 : World) (u v : Sl), Mod NoB W8 W12 → Own W12 ty_int 1 u (iv m.types[k].ins) → Own W12 ty_int 1 v (iv m.types[k].outs) → (∀ b, u.isB b → W8.heap.size ≤ b) → (∀ b, v.isB b → W8.heap.size ≤ b) →
            Na W12 #[u.v, v.v] 37 fun q65 W13 => KS W13 ∧ RunV Tryd.prog (Builtin.append_ #[22, 22] 22 #[tt.v, (.slice (some q65) 1 1)]) W13 fun v W14 => ∃ s66 : Sl, v = s66.v ∧ KS W14 ∧ stC W14 ((⟨b5, 0, none⟩ : Addr).add 0) [s66.v] 0 fun W15 => L (IntKind.wrap .i64 ((k : Int) + 1)) W15 := by
          intro W12 u v hm12 ou ov fu fv
          refine Na.mk fun b65 W13 hb65 hm13 hz13 hc13 => ?_
          have hm813 := hm12.trans0 hm13
          refine ⟨ks _ hm813, ?_⟩
          refine St8.next hm813 (x := m.types[k]) (by rw [hcp]; exact List.getElem?_eq_getElem hlt) (ou.mod0 hm13) (ov.mod0 hm13) fu fv (by unfold big; omega) (fun W15 tt' St15 => ?_) hc13 (fun w hmw => ?_)
          · rw [wrap_id (by omega) (by omega)]
            exact ih (k + 1) tt' _ W15 (by omega) hlt (by simp [hcp]) St15
          · rw [hKS]
            have nb5 : ¬ tt.isB b5 := fun y => (St8.d1 _ y).1 rfl
            have nb2 : ¬ tt.isB b2 := fun y => (St8.d1 _ y).2.1 rfl
            refine ⟨hmw.heap (hm813.heap St8.c2 (fun h => h)) nb2, hmw.heap (hm813.heap St8.c5 (fun h => h)) nb5, ((hr.mod0 St8.mod).mod0 hm813).mod hmw (fun p v hp y => ?_)⟩
            have := (St8.d1 _ y).2.2.2
            have := lt_of_cell (hr p v hp)
            omega
        refine ⟨KS, ks _ (Mod.refl _ _), tt, fun w hw => kB w hw 0 _ rfl, S.types, fun w hw => kA w hw 0 _ rfl, q, nq, s0, fun w hw => kC w hw _ _ c0, S.types, fun w hw => kA w hw 0 _ rfl, q, nq, s1, fun w hw => kC w hw _ _ c1, ?_, ?_⟩
        · refine Na.mk fun b48 W9 hb48 hm9 hz9 hc9 => ?_
          refine ⟨ks _ hm9, ?_, ?_⟩
          · have n9 : Nint W8 W9 ⟨some ⟨b48, 0, none⟩, 0, 0⟩ [] := ⟨empty_own hc9, hm9, fun b x => by obtain ⟨q, hq, e⟩ := x; cases hq; simp only at e; omega⟩
            refine n9.app (Ints.src i0 (kC _ (ks _ hm9))) (by simpa using l0) (fun s55 W10 n10 m10 g10 => ⟨s55, rfl, ks _ n10.mod, ?_⟩)
            rw [List.nil_append] at n10
            refine Na.mk fun b56 W11 hb56 hm11 hz11 hc11 => ?_
            refine ⟨ks _ (n10.mod.trans0 hm11), ?_⟩
            have n11 : Nint W10 W11 ⟨some ⟨b56, 0, none⟩, 0, 0⟩ [] := ⟨empty_own hc11, hm11, fun b x => by obtain ⟨q, hq, e⟩ := x; cases hq; simp only at e; omega⟩
            refine n11.app (Ints.src i1 (kC _ (ks _ (n10.mod.trans0 hm11)))) (by simpa using l1) (fun s63 W12 n12 m12 g12 => ⟨s63, rfl, ks _ (n10.mod.trans0 n12.mod), ?_⟩)
            rw [List.nil_append] at n12
            exact core W12 s55 s63 (n10.mod.trans0 n12.mod) (n10.own.mod0 n12.mod) n12.own n10.fresh (fun b x => by have := n12.fresh b x; have := n10.mod.size; omega)
          · refine Na.mk fun b56 W16 hb56 hm16 hz16 hc16 => ?_
            have hm816 := hm9.trans0 hm16
            refine ⟨ks _ hm816, ?_⟩
            have n16 : Nint W8 W16 ⟨some ⟨b48, 0, none⟩, 0, 0⟩ [] := ⟨(empty_own hc9).mod0 hm16, hm816, fun b x => by obtain ⟨q, hq, e⟩ := x; cases hq; simp only at e; omega⟩
            refine n16.app (Ints.src i0 (kC _ (ks _ hm816))) (by simpa using l0) (fun s55 W17 n17 m17 g17 => ⟨s55, rfl, ks _ n17.mod, ?_⟩)
            rw [List.nil_append] at n17
            have lt56 := heap_lt hc16
            have x56 : ∀ b, (⟨some ⟨b56, 0, none⟩, 0, 0⟩ : Sl).isB b → b = b56 := fun b x => by obtain ⟨q, hq, e⟩ := x; cases hq; exact e.symm
            have y48 : ∀ b, (⟨some ⟨b48, 0, none⟩, 0, 0⟩ : Sl).isB b → b = b48 := fun b x => by obtain ⟨q, hq, e⟩ := x; cases hq; exact e.symm
            have n17' : Nint W8 W17 ⟨some ⟨b56, 0, none⟩, 0, 0⟩ [] := ⟨(empty_own hc16).mod m17 (fun b x y => by have := x56 b x; have := y48 b y; omega), n17.mod, fun b x => by have := x56 b x; omega⟩
            refine n17'.app (Ints.src i1 (kC _ (ks _ n17.mod))) (by simpa using l1) (fun s63 W18 n18 m18 g18 => ⟨s63, rfl, ks _ n18.mod, ?_⟩)
            rw [List.nil_append] at n18
            exact core W18 s55 s63 n18.mod (n17.own.mod m18 (fun b x y => by
              have := x56 b y
              rcases g17 b x with z | z
              · have := y48 b z; omega
              · omega)) n18.own n17.fresh n18.fresh
        · refine Na.mk fun b56 W22 hb56 hm22 hz22 hc22 => ?_
          refine ⟨ks _ hm22, ?_⟩
          refine Na.mk fun b48 W23 hb48 hm23 hz23 hc23 => ?_
          have hm823 := hm22.trans0 hm23
          refine ⟨ks _ hm823, ?_⟩
          have x56 : ∀ b, (⟨some ⟨b56, 0, none⟩, 0, 0⟩ : Sl).isB b → b = b56 := fun b x => by obtain ⟨q, hq, e⟩ := x; cases hq; exact e.symm
          have y48 : ∀ b, (⟨some ⟨b48, 0, none⟩, 0, 0⟩ : Sl).isB b → b = b48 := fun b x => by obtain ⟨q, hq, e⟩ := x; cases hq; exact e.symm
          have n23 : Nint W8 W23 ⟨some ⟨b48, 0, none⟩, 0, 0⟩ [] := ⟨empty_own hc23, hm823, fun b x => by have := y48 b x; omega⟩
          refine n23.app (Ints.src i0 (kC _ (ks _ hm823))) (by simpa using l0) (fun s55 W24 n24 m24 g24 => ⟨s55, rfl, ks _ n24.mod, ?_⟩)
          rw [List.nil_append] at n24
          have lt56 := heap_lt hc22
          have n24' : Nint W8 W24 ⟨some ⟨b56, 0, none⟩, 0, 0⟩ [] := ⟨((empty_own hc22).mod0 hm23).mod m24 (fun b x y => by have := x56 b x; have := y48 b y; omega), n24.mod, fun b x => by have := x56 b x; omega⟩
          refine n24'.app (Ints.src i1 (kC _ (ks _ n24.mod))) (by simpa using l1) (fun s63 W25 n25 m25 g25 => ⟨s63, rfl, ks _ n25.mod, ?_⟩)
          rw [List.nil_append] at n25
          exact core W25 s55 s63 n25.mod (n24.own.mod m25 (fun b x y => by
            have := x56 b y
            rcases g24 b x with z | z
            · have := y48 b z; omega
            · omega)) n25.own n24.fresh n25.fresh
    exact key m.types.length 0 ⟨none, 0, 0⟩ [] W6 (by omega) (by omega) rfl St6
  -- the copy of the functions
  refine Dw.mk fun W64 hm64 _ => ?_
  have hm064 := hm04.trans0 hm64
  have ks : ∀ w, Mod NoB W64 w → w.heap[b2]? = some (.cells (ModC S m) 32 (0, 0)) := fun w hmw => hmw.heap (hm64.heap c24 (fun h => h)) (fun h => h)
  have hfl := hm.funcs.1
  have rfun : Ints r S.funcs m.funcs := hm.funcs
  have endA : ∀ (s32 : Sl) (W68 : World), Nint W64 W68 s32 (m.funcs ++ [91]) → ((0 : Int) ≤ (S.funcs.len : Int) ∧ (S.funcs.len : Int) ≤ (s32.cap : Int)) ∧ stC W68 ((⟨b5, 0, none⟩ : Addr).add 2) [(.slice (if s32.cap = 0 then s32.a else Option.map (fun a : Addr => a.add (0 * 1)) s32.a) (((S.funcs.len : Int) : Int).toNat - 0) (s32.cap - 0))] 0 fun W69 => J W69 := by
    intro s32 W68 n32
    have hcap := n32.own.le_cap
    have hlen : s32.len = m.funcs.length + 1 := by have := n32.own.1; simpa using this.symm
    refine ⟨⟨by omega, by omega⟩, ?_⟩
    rw [resl, hfl]
    exact finA s32 W68 ⟨n32.own, hm64.trans0 n32.mod, fun b x => by have := n32.fresh b x; have := hm64.size; omega⟩
  have lf : m.funcs.length ≤ big := wf
  have lf1 : m.funcs.length + 1 ≤ big := by
    have := hw.room
    have h10 : msum (fun _ => 10) m.funcs = 10 * m.funcs.length := by unfold msum; rw [List.map_const', List.sum_replicate_nat]; omega
    omega
  refine ⟨fun w => w.heap[b2]? = some (.cells (ModC S m) 32 (0, 0)), ks _ (Mod.refl _ _), S.funcs, fun w hw => mod_cells hw rfl, S.funcs, fun w hw => mod_cells hw rfl, ?_, ?_⟩
  · refine Na.mk fun b27 W65 hb27 hm65 hz65 hc65 => ?_
    refine ⟨ks _ hm65, ?_, ?_⟩
    · have n65 : Nint W64 W65 ⟨some ⟨b27, 0, none⟩, 0, 0⟩ [] := ⟨empty_own hc65, hm65, fun b x => by obtain ⟨q, hq, e⟩ := x; cases hq; simp only at e; omega⟩
      refine n65.app (Ints.src rfun (hr.mod0 (hm064.trans0 hm65))) (by simpa using lf) (fun s30 W66 n66 m66 g66 => ⟨s30, rfl, ks _ n66.mod, ?_⟩)
      rw [List.nil_append] at n66
      refine Na.mk fun b31 W67 hb31 hm67 hz67 hc67 => ?_
      refine ⟨ks _ (n66.mod.trans0 hm67), ?_⟩
      exact (n66.mod0 hm67).app (Ints.src (one_int hc67) (Sub.self _)) (by simpa using lf1) (fun s32 W68 n68 m68 g68 => ⟨s32, rfl, ks _ n68.mod, endA s32 W68 n68⟩)
    · refine Na.mk fun b31 W70 hb31 hm70 hz70 hc70 => ?_
      have hm6470 := hm65.trans0 hm70
      refine ⟨ks _ hm6470, ?_⟩
      have y27 : ∀ b, (⟨some ⟨b27, 0, none⟩, 0, 0⟩ : Sl).isB b → b = b27 := fun b x => by obtain ⟨q, hq, e⟩ := x; cases hq; exact e.symm
      have n70 : Nint W64 W70 ⟨some ⟨b27, 0, none⟩, 0, 0⟩ [] := ⟨(empty_own hc65).mod0 hm70, hm6470, fun b x => by have := y27 b x; omega⟩
      refine n70.app (Ints.src rfun (hr.mod0 (hm064.trans0 hm6470))) (by simpa using lf) (fun s30 W71 n71 m71 g71 => ⟨s30, rfl, ks _ n71.mod, ?_⟩)
      rw [List.nil_append] at n71
      have hc71 := m71.heap hc70 (fun y => by have := y27 _ y; omega)
      exact n71.app (Ints.src (one_int hc71) (Sub.self _)) (by simpa using lf1) (fun s32 W72 n72 m72 g72 => ⟨s32, rfl, ks _ n72.mod, endA s32 W72 n72⟩)
  · refine Na.mk fun b31 W74 hb31 hm74 hz74 hc74 => ?_
    refine ⟨ks _ hm74, ?_⟩
    refine Na.mk fun b27 W75 hb27 hm75 hz75 hc75 => ?_
    have hm6475 := hm74.trans0 hm75
    refine ⟨ks _ hm6475, ?_⟩
    have lt31 := heap_lt hc74
    have y27 : ∀ b, (⟨some ⟨b27, 0, none⟩, 0, 0⟩ : Sl).isB b → b = b27 := fun b x => by obtain ⟨q, hq, e⟩ := x; cases hq; exact e.symm
    have n75 : Nint W64 W75 ⟨some ⟨b27, 0, none⟩, 0, 0⟩ [] := ⟨empty_own hc75, hm6475, fun b x => by have := y27 b x; omega⟩
    refine n75.app (Ints.src rfun (hr.mod0 (hm064.trans0 hm6475))) (by simpa using lf) (fun s30 W76 n76 m76 g76 => ⟨s30, rfl, ks _ n76.mod, ?_⟩)
    rw [List.nil_append] at n76
    have hc76 := m76.heap (hm75.heap hc74 (fun h => h)) (fun y => by have := y27 _ y; omega)
    exact n76.app (Ints.src (one_int hc76) (Sub.self _)) (by simpa using lf1) (fun s32 W77 n77 m77 g77 => ⟨s32, rfl, ks _ n77.mod, endA s32 W77 n77⟩)
end Go.Proofs.YtacjnpahlbibhaaDoor
end

/- Verification conditions: what an operation does. -/
import Derived.Test.YtacjnpahlbibhaaDoorVcA
set_option linter.unusedVariables false
set_option linter.unusedSimpArgs false
namespace Go.Proofs.YtacjnpahlbibhaaDoor
open Go

section
variable {P : Program}
theorem run_info {t : TypeId} {i : TypeInfo} (h : P.info? t = some i) (w : World) : (typeInfo t).run P w = .ok i w := by
  simp [typeInfo, h]
theorem run_sizeOf' {t : TypeId} (h : (P.info? t).isSome) (w : World) : (sizeOf t).run P w = .ok (szOf P t) w := by
  obtain ⟨i, hi⟩ := Option.isSome_iff_exists.1 h
  simp [sizeOf, typeInfo, hi, szOf]
theorem run_und {t : TypeId} {d : TypeDesc} (h : P.underlying t = some d) (w : World) : (underlying t).run P w = .ok d w := run_underlying h w
theorem info_of_und {t : TypeId} {d : TypeDesc} (h : P.underlying t = some d) : (P.info? t).isSome := by
  unfold Program.underlying at h
  cases hi : P.info? t with
  | none => simp [hi] at h
  | some i => rfl
theorem run_isAgg {t : TypeId} {d : TypeDesc} (h : P.underlying t = some d) (w : World) : (isAgg t).run P w = .ok (aggB P t) w := by
  unfold isAgg aggB
  rw [h]
  cases d <;> simp [run_und h]
theorem und_of_lf {t : TypeId} {l : Lf} (h : lfOf P t = some l) : ∃ d, P.underlying t = some d := by
  unfold lfOf at h
  cases hu : P.underlying t with
  | none => simp [hu] at h
  | some d => exact ⟨d, rfl⟩
theorem und_of_agg {t : TypeId} (h : aggB P t = true) : ∃ d, P.underlying t = some d := by
  unfold aggB at h
  cases hu : P.underlying t with
  | none => simp [hu] at h
  | some d => exact ⟨d, rfl⟩

theorem cellsC_sound {C : Addr → Value → Prop} {p : Addr} : ∀ {ls : List Lf} {i : Nat} {K : List Value → Prop}, cellsC C ls p i K →
    ∃ vs, K vs ∧ vs.length = ls.length ∧ ∀ j v, vs[j]? = some v → C (p.add (i + j)) v := by
  intro ls
  induction ls with
  | nil => intro i K h; exact ⟨[], h, rfl, fun j v hv => by simp at hv⟩
  | cons l ls ih =>
    intro i K h
    obtain ⟨x, hx, h⟩ := h
    obtain ⟨vs, hK, hl, hvs⟩ := ih h
    refine ⟨_, hK, by simp [hl], fun j v hv => ?_⟩
    cases j with
    | zero => simp at hv; subst hv; exact hx
    | succ j => simp at hv; have := hvs j v hv; rwa [show i + 1 + j = i + (j + 1) from by omega] at this
theorem loadC_sound {C : Addr → Value → Prop} {t : TypeId} {p : Addr} {K : Value → Prop} (h : loadC P C t p K) :
    ∃ v, K v ∧ ∀ w, (∀ p v, C p v → w.cell? p = some v) → (loadVar t p).run P w = .ok v w := by
  unfold loadC at h
  split at h
  · rename_i ha
    obtain ⟨d, hd⟩ := und_of_agg ha
    split at h
    · rename_i ls hls
      split at h
      · rename_i hsz
        have hsz := Nat.eq_of_beq_eq_true hsz
        obtain ⟨vs, hK, hl, hvs⟩ := cellsC_sound h
        refine ⟨_, hK, fun w hw => ?_⟩
        simp only [loadVar, Sem.run_bind, run_isAgg hd, Result.andThen_ok, ha, if_true, run_sizeOf' (info_of_und hd)]
        rw [hsz, ← hl]
        rw [run_loadCells_list w p vs (fun j v hv => by have := hw _ _ (hvs j v hv); simpa using this)]
        rfl
      · exact h.elim
    · exact h.elim
  · rename_i ha
    split at h
    · rename_i l hl
      obtain ⟨d, hd⟩ := und_of_lf hl
      obtain ⟨x, hx, hK⟩ := h
      refine ⟨_, hK, fun w hw => ?_⟩
      simp only [loadVar, Sem.run_bind, run_isAgg hd, Result.andThen_ok, ha, Bool.false_eq_true, if_false]
      simp [hw _ _ hx]
    · exact h.elim
theorem partC_sound {t : TypeId} {cs : Array Value} {off : Nat} {K : Value → Prop} (h : partC P t cs off K) :
    ∃ v, K v ∧ ∀ w, (part t cs off).run P w = .ok v w := by
  unfold partC at h
  split at h
  · exact h.elim
  · rename_i d hd
    split at h
    · rename_i ha
      refine ⟨_, h, fun w => ?_⟩
      simp [part, run_isAgg hd, ha, run_sizeOf' (info_of_und hd)]
    · rename_i ha
      split at h
      · rename_i v hv
        refine ⟨_, h, fun w => ?_⟩
        simp [part, run_isAgg hd, ha, hv]
      · exact h.elim
theorem boundC_none {R : Prop → Prop} {dflt top : Nat} {K : Nat → Prop} (h : boundC R none dflt top K) : K dflt := h
theorem boundC_some {R : Prop → Prop} {v : Value} {dflt top : Nat} {K : Nat → Prop} (h : boundC R (some v) dflt top K) :
    ∃ k i, v = .int k i ∧ R (0 ≤ i ∧ i ≤ (top : Int)) ∧ K i.toNat := by
  unfold boundC asI at h
  cases v with
  | int k i => exact ⟨k, i, rfl, h.1, h.2⟩
  | _ => exact h.elim
theorem run_sliceBound {k : IntKind} {i : Int} {top : Nat} (h : 0 ≤ i ∧ i ≤ (top : Int)) (c : BoundsCode) (w : World) :
    (Instr.sliceBound (.int k i) top c).run P w = .ok i.toNat w := by
  simp [Instr.sliceBound, asIntOf, h]
/-- The bounds of a slice expression without a third index. -/
theorem run_sliceBounds {R : Prop → Prop} {low high : Option Value} {b : Bool} {len cap top : Nat} {K : Nat → Nat → Prop} (htop : top = cap)
    (h : boundC R high len top fun h => boundC R low 0 h fun l => K h l) :
    ∃ h l, K h l ∧ ((∀ φ, R φ → φ) → ∀ w, (Instr.sliceBounds b len cap low high none).run P w = .ok (l, h, cap) w) := by
  subst htop
  cases high with
  | none =>
    have h := boundC_none h
    cases low with
    | none => exact ⟨_, _, boundC_none h, fun _ w => by simp [Instr.sliceBounds]⟩
    | some v =>
      obtain ⟨k, i, rfl, hr, hK⟩ := boundC_some h
      exact ⟨_, _, hK, fun hR w => by simp [Instr.sliceBounds, run_sliceBound (hR _ hr)]⟩
  | some u =>
    obtain ⟨k, i, rfl, hr, h⟩ := boundC_some h
    cases low with
    | none => exact ⟨_, _, boundC_none h, fun hR w => by simp [Instr.sliceBounds, run_sliceBound (hR _ hr)]⟩
    | some v =>
      obtain ⟨k', i', rfl, hr', hK⟩ := boundC_some h
      exact ⟨_, _, hK, fun hR w => by simp [Instr.sliceBounds, run_sliceBound (hR _ hr), run_sliceBound (hR _ hr')]⟩
theorem fieldOf_some {t : TypeId} {i : Nat} {f : Field} (h : fieldOf P t i = some f) : ∃ fs, P.underlying t = some (.struct fs) ∧ fs[i]? = some f := by
  unfold fieldOf at h
  split at h
  · rename_i fs hfs; exact ⟨fs, hfs, h⟩
  · cases h
theorem intTo_some {t : TypeId} {k : IntKind} (h : intTo P t = some k) : P.underlying t = some (.int k) := by
  unfold intTo at h
  split at h
  · rename_i k' hk; cases h; exact hk
  · cases h
theorem eq_bool {t : TypeId} (hu : P.underlying t = some .bool) (a b : Bool) (w : World) : (Op.equalIn 10000 t (.bool a) (.bool b)).run P w = .ok (a == b) w := by
  rw [show (10000 : Nat) = 9999 + 1 from rfl, Op.equalIn]; simp [run_und hu]
theorem eq_slice {t e : TypeId} (hu : P.underlying t = some (.slice e)) (a : Option Addr) (l c l' c' : Nat) (w : World) : (Op.equalIn 10000 t (.slice a l c) (.slice none l' c')).run P w = .ok a.isNone w := by
  rw [show (10000 : Nat) = 9999 + 1 from rfl, Op.equalIn]; cases a <;> simp [run_und hu]
theorem eq_ptr {t e : TypeId} (hu : P.underlying t = some (.pointer e)) (a : Option Addr) (w : World) : (Op.equalIn 10000 t (.pointer a) (.pointer none)).run P w = .ok a.isNone w := by
  rw [show (10000 : Nat) = 9999 + 1 from rfl, Op.equalIn]; cases a <;> simp [run_und hu]
theorem binC_sound {R : Prop → Prop} {op : BinOp} {t : TypeId} {x y : Value} {K : Value → Prop} (he : eqFits P t x y = true) (h : binC R op x y K) :
    ∃ v, K v ∧ ((∀ φ, R φ → φ) → ∀ (ox oy : Operand) (w : World), ((do eqGuard op t ox oy x y; binOp op t x y : Sem Value)).run P w = .ok v w) := by
  unfold binC at h
  split at h
  · rename_i k a k' b
    have hg : ∀ (ox oy : Operand) (w : World), (eqGuard op t ox oy (.int k a) (.int k' b)).run P w = .ok () w := by
      intro ox oy w; unfold eqGuard; split <;> simp
    split at h
    · exact ⟨_, h.2, fun hR ox oy w => by have := hR _ h.1; simp [hg, binOp, Op.shift, Int.not_lt.2 this]⟩
    · exact ⟨_, h.2, fun hR ox oy w => by have := hR _ h.1; simp [hg, binOp, Op.shift, Int.not_lt.2 this]⟩
    · split at h
      · exact h.elim
      · rename_i hk
        have hk : k = k' := of_decide_eq_true hk
        subst hk
        split at h <;> first
          | exact h.elim
          | exact ⟨_, h, fun hR ox oy w => by simp [hg, binOp, Op.intArith, Op.intBits, Op.intCmp]⟩
          | exact ⟨_, h.2, fun hR ox oy w => by have := hR _ h.1; simp [hg, binOp, Op.intDiv, this]⟩
  · rename_i a b
    split at h <;> first
      | exact h.elim
      | exact ⟨_, h, fun hR ox oy w => rfl⟩
  · rename_i a b
    unfold eqFits at he
    simp only at he
    split at he
    case h_2 => cases he
    case h_1 hu =>
      split at h <;> first
        | exact h.elim
        | exact ⟨_, h, fun hR ox oy w => by simp [eqGuard, binOp, Op.equal, Op.maxDepth, eq_bool hu]⟩
  · rename_i a l c l' c'
    unfold eqFits at he
    simp only at he
    split at he
    case h_2 => cases he
    case h_1 e hu =>
      split at h <;> first
        | exact h.elim
        | (refine ⟨_, h, fun hR ox oy w => ?_⟩
           simp [eqGuard, binOp, Op.equal, Op.maxDepth, eq_slice hu])
  · rename_i a
    unfold eqFits at he
    simp only at he
    split at he
    case h_2 => cases he
    case h_1 e hu =>
      split at h <;> first
        | exact h.elim
        | (refine ⟨_, h, fun hR ox oy w => ?_⟩
           simp [eqGuard, binOp, Op.equal, Op.maxDepth, eq_ptr hu])
  · exact h.elim
theorem build_places (fs : Array Field) (hfs : ∀ f ∈ fs.toList, (P.info? f.type).isSome) (w : World) :
    (fs.mapM fun f => do pure (f.offset, ← sizeOf f.type) : Sem (Array (Nat × Nat))).run P w = .ok (fs.map fun f => (f.offset, szOf P f.type)) w := by
  rw [Array.mapM_eq_mapM_toList]
  obtain ⟨l⟩ := fs
  simp only [Sem.run_map]
  have : ∀ l : List Field, (∀ f ∈ l, (P.info? f.type).isSome) → (List.mapM (fun f : Field => do pure (f.offset, ← sizeOf f.type)) l : Sem (List (Nat × Nat))).run P w = .ok (l.map fun f => (f.offset, szOf P f.type)) w := by
    intro l
    induction l with
    | nil => intro _; simp
    | cons f l ih =>
      intro h
      rw [List.mapM_cons]
      have ih := ih (fun g hg => h g (List.mem_cons_of_mem _ hg))
      simp only [Sem.run_bind, run_sizeOf' (h f (by simp)), Result.andThen_ok, Sem.run_pure] at ih ⊢
      rw [ih]
      simp
  rw [this l hfs]
  simp
theorem withSz_some {t : TypeId} {K : Nat → Prop} (h : withSz P t K) : (P.info? t).isSome ∧ K (szOf P t) := by
  unfold withSz at h
  unfold szOf
  split at h
  · rename_i i hi; rw [hi]; exact ⟨rfl, h⟩
  · exact h.elim
/-- What an operation that leaves the world as it is yields. -/
theorem pureC_sound {R : Prop → Prop} {C : Addr → Value → Prop} {ρ : Operand → Value} {o : Oper} {K : Value → Prop} (hp : isPureP P o.op = true) (hnp : ∀ c a b, o.op ≠ .pick c a b)
    (h : pureC P R C ρ o.op K) :
    ∃ v, K v ∧ ((∀ φ, R φ → φ) → ∀ w, (isLoad o.op = true → ∀ p v, C p v → w.cell? p = some v) → (execOp ρ o).run P w = .ok (.value v) w) := by
  unfold execOp
  generalize o.op = op at *
  unfold pureC at h
  split at h
  case h_1 x => exact ⟨_, h, fun _ w _ => by simp⟩
  case h_2 x => exact ⟨_, h, fun _ w _ => by simp⟩
  case h_3 c a b => exact absurd rfl (hnp c a b)
  case h_4 t x =>
    unfold asP at h
    split at h
    · split at h
      · rename_i q hx
        obtain ⟨v, hK, hv⟩ := loadC_sound h
        exact ⟨v, hK, fun _ w hw => by simp [hx, Instr.loadAt, Instr.sureAddr, hv w (hw rfl)]⟩
      · exact h.elim
    · exact h.elim
  case h_5 x =>
    unfold asP at h
    split at h
    · rename_i p hx
      obtain ⟨q, hq, hK⟩ := h
      exact ⟨_, hK, fun hR w _ => by have := hR _ hq; subst this; simp [hx]⟩
    · exact h.elim
  case h_6 t x i =>
    unfold asP at h
    split at h
    · rename_i p hx
      split at h
      · rename_i p f hf
        split at h
        · exact h.elim
        · rename_i hz
          obtain ⟨fs, hu, hi⟩ := fieldOf_some hf
          have hz : szOf P f.type ≠ 0 := Nat.ne_of_beq_eq_false hz
          have hinf : (P.info? f.type).isSome := by
            cases hc : P.info? f.type with
            | none => simp [szOf, hc] at hz
            | some _ => rfl
          exact ⟨_, h, fun hR w _ => by simp [hx, Instr.fieldAt, run_und hu, hi, Instr.sureAddr, fieldPlace, run_sizeOf' hinf, hz]⟩
      · exact h.elim
    · exact h.elim
  case h_7 t x i =>
    split at h
    · rename_i cs f hx hf
      obtain ⟨fs, hu, hi⟩ := fieldOf_some hf
      obtain ⟨v, hK, hv⟩ := partC_sound h
      exact ⟨v, hK, fun _ w _ => by simp [hx, Instr.field, run_und hu, hi, asAgg, hv]⟩
    · exact h.elim
  case h_8 t x i =>
    unfold asI at h
    split at h
    · rename_i k n hi
      split at h
      · rename_i e a len cap hu hx
        obtain ⟨he, q, hq, hK⟩ := withSz_some h
        refine ⟨_, hK, fun hR w _ => ?_⟩
        obtain ⟨rfl, h1, h2⟩ := hR _ hq
        simp [hi, hx, Instr.indexAt, asIntOf, run_und hu, h1, h2, run_sizeOf' he]
      · rename_i len e q hu hx
        obtain ⟨he, hq, hK⟩ := withSz_some h
        refine ⟨_, hK, fun hR w _ => ?_⟩
        have := hR _ hq
        simp [hi, hx, Instr.indexAt, asIntOf, run_und hu, this, run_sizeOf' he, Instr.sureAddr]
      · exact h.elim
    · exact h.elim
  case h_9 x i =>
    split at h
    · rename_i vs hx
      split at h
      · rename_i v hv
        exact ⟨v, h, fun _ w _ => by simp [hx, Instr.extract, hv]⟩
      · exact h.elim
    · exact h.elim
  case h_10 op t x =>
    split at h
    · rename_i b hx; exact ⟨_, h, fun _ w _ => by simp [hx, Op.unary]⟩
    · rename_i k n hx; exact ⟨_, h, fun _ w _ => by simp [hx, Op.unary, Op.intArith]⟩
    · rename_i k n hx; exact ⟨_, h, fun _ w _ => by simp [hx, Op.unary, Op.intBits]⟩
    · exact h.elim
  case h_11 fn first captured => exact ⟨_, h, fun _ w _ => by simp [Instr.makeFunc]⟩
  case h_12 op t x y yt =>
    split at h
    · rename_i he
      obtain ⟨v, hK, hv⟩ := binC_sound he h
      exact ⟨v, hK, fun hR w _ => by
        have h1 := hv hR x y w
        simp only [Sem.run_bind] at h1 ⊢
        rw [h1]; rfl⟩
    · exact h.elim
  case h_13 src dst x =>
    split at h
    · rename_i k k' n hk hx
      refine ⟨_, h, fun _ w _ => ?_⟩
      unfold isPureP at hp
      simp only at hp
      split at hp
      · rename_i ks kd hs hd
        have hs := intTo_some hs
        have hd := intTo_some hk
        simp [hx, convert, run_und hs, run_und hd, Conv.intToInt]
      · cases hp
    · exact h.elim
  case h_14 t x low high max =>
    split at h
    · exact h.elim
    · split at h
      · rename_i s hu hx
        obtain ⟨hh, l, hK, hv⟩ := run_sliceBounds (P := P) (b := false) (len := s.size) (cap := s.size) rfl h
        exact ⟨_, hK, fun hR w _ => by simp [hx, Instr.sliceAt, run_und hu, Instr.slice, hv hR]⟩
      · rename_i e a len cap hu hx
        obtain ⟨he, h⟩ := withSz_some h
        obtain ⟨hh, l, hK, hv⟩ := run_sliceBounds (P := P) (b := true) (len := len) (cap := cap) rfl h
        exact ⟨_, hK, fun hR w _ => by simp [hx, Instr.sliceAt, run_und hu, Instr.slice, hv hR, run_sizeOf' he]⟩
      · rename_i n e a hu hx
        obtain ⟨he, h⟩ := withSz_some h
        obtain ⟨hh, l, hK, hv⟩ := run_sliceBounds (P := P) (b := false) (len := n) (cap := n) rfl h
        exact ⟨_, hK, fun hR w _ => by simp [hx, Instr.sliceAt, run_und hu, Instr.sureAddr, hv hR, run_sizeOf' he]⟩
      · exact h.elim
  case h_15 t parts =>
    have hparts : ∀ (parts : Array (Nat × Operand)), (parts.map fun p => (p.1, ρ p.2)).toList = parts.toList.map fun p => (p.1, ρ p.2) := fun parts => by simp
    have hzero : ∀ z, zeroOf P t = some z → ∀ w, (zeroValue t).run P w = .ok z w := by
      intro z hz w
      unfold zeroOf at hz
      split at hz
      · rename_i i hi; simp [zeroValue, run_info hi, hz]
      · cases hz
    split at h
    · rename_i z fs hz hu
      split at h
      · exact h.elim
      · rename_i hall
        have hall : ∀ f ∈ fs.toList, (P.info? f.type).isSome := List.all_eq_true.1 hall
        split at h
        · rename_i cells hc
          refine ⟨_, h, fun hR w _ => ?_⟩
          have hpl : (fun i : Nat => (fs.map fun f : Field => (f.offset, szOf P f.type))[i]?) = (fun i : Nat => (fs[i]?).map fun f : Field => (f.offset, szOf P f.type)) := by
            funext i; simp only [Array.getElem?_map]
          simp only [Instr.build, Sem.run_bind, hzero z hz, Result.andThen_ok, run_und hu, build_places fs hall, hpl]
          rw [hparts, hc]
          rfl
        · exact h.elim
    · rename_i z n e hz hu
      split at h
      · exact h.elim
      · rename_i he
        split at h
        · rename_i cells hc
          refine ⟨_, h, fun hR w _ => ?_⟩
          simp only [Instr.build, Sem.run_bind, hzero z hz, Result.andThen_ok, run_und hu, run_sizeOf' he]
          rw [hparts, hc]
          rfl
        · exact h.elim
    · exact h.elim
  case h_16 c =>
    split at h
    · rename_i x t hcal hargs hats
      have ha : c.args = #[x] := by rw [← Array.toArray_toList (xs := c.args), hargs]
      have ht : c.argTypes = #[t] := by rw [← Array.toArray_toList (xs := c.argTypes), hats]
      split at h
      · rename_i s hu hx
        exact ⟨_, h, fun _ w _ => by simp [resolve, hcal, invoke, builtin, Builtin.len_, ha, ht, hx, run_und hu, goInt]⟩
      · rename_i n e hu
        exact ⟨_, h, fun _ w _ => by simp [resolve, hcal, invoke, builtin, Builtin.len_, ha, ht, run_und hu, goInt]⟩
      · rename_i e a n cp hu hx
        exact ⟨_, h, fun _ w _ => by simp [resolve, hcal, invoke, builtin, Builtin.len_, ha, ht, hx, run_und hu, goInt]⟩
      · exact h.elim
    · exact h.elim
  case h_17 => exact h.elim
end
end Go.Proofs.YtacjnpahlbibhaaDoor

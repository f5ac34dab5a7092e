/- Plain laws: Check of a module that has grown. No program in sight. -/
import Derived.Test.YtacjnpahlbibhaaDoorGrB
set_option linter.unusedVariables false
set_option linter.unusedSimpArgs false
set_option maxRecDepth 100000
namespace Go.Proofs.YtacjnpahlbibhaaDoor

theorem grown_wider (m : Module) (i : Nat) (c : Code) : Wider m (grown m i c) := ⟨⟨_, rfl⟩, ⟨_, rfl⟩, rfl, rfl, rfl, rfl⟩
theorem expGo_mono {c1 c2 : Int → Int} (h : ∀ k, c1 k ≤ c2 k) : ∀ (l : List Export) (seen : List ByteArray), expGo c1 seen l = true → expGo c2 seen l = true := by
  intro l
  induction l with
  | nil => intro seen _; rfl
  | cons x r ih =>
    intro seen he
    unfold expGo at he ⊢
    split at he
    · cases he
    · rename_i hn
      have := h x.kind
      rw [if_neg (fun hc => by
        rcases hc with hc | hc
        · exact hn (.inl hc)
        · exact hn (.inr (by omega)))]
      exact ih _ he
theorem outerM_sig {m : Module} (h : outerM m = true) {f : Nat} (hf : f < m.imports.length + m.funcs.length) : (sigOf m (f : Int)).2 = true := by
  unfold outerM at h
  simp only at h
  split at h
  · rename_i hall
    rw [List.all_eq_true] at hall
    exact hall f (List.mem_range.2 hf)
  · cases h
theorem outerM_grown {m : Module} (h : outerM m = true) (i : Nat) (c : Code) : outerM (grown m i c) = true := by
  have hw := grown_wider m i c
  have hsig := fun f hf => outerM_sig h (f := f) hf
  unfold outerM at h ⊢
  simp only at h ⊢
  split at h
  case isFalse => cases h
  have e1 : (List.range ((grown m i c).imports.length + (grown m i c).funcs.length)).all (fun f => (sigOf (grown m i c) (f : Int)).2) = true := by
    rw [List.all_eq_true]
    intro f hf
    have hf' : f < m.imports.length + m.funcs.length := List.mem_range.1 hf
    rw [sigOf_wider hw (hsig f hf')]
    exact hsig f hf'
  rw [if_pos e1]
  split at h
  case isTrue => cases h
  rename_i h2
  rw [if_neg (show ¬ ((grown m i c).tables.length > 1 ∨ (grown m i c).mems.length > 1) from h2)]
  split at h
  case isFalse => cases h
  rename_i h3
  rw [if_pos (show ((grown m i c).tables ++ (grown m i c).mems).all limOk = true from h3)]
  split at h
  case isTrue => cases h
  rename_i h4
  rw [if_neg (show ¬ ((grown m i c).mems.length = 1 ∧ ∃ l ∈ (grown m i c).mems, l.max > 65536) from h4)]
  split at h
  case isFalse => cases h
  rename_i h5
  have e5 : (grown m i c).globals.all (fun g => constOk g.init g.type) = true := by
    show (m.globals ++ [gNew]).all _ = true
    rw [List.all_append, h5]
    decide +kernel
  rw [if_pos e5]
  rw [Bool.and_eq_true] at h ⊢
  obtain ⟨hn, hs⟩ := h
  unfold namesOk at hn ⊢
  rw [Bool.and_eq_true] at hn ⊢
  refine ⟨⟨expGo_mono (fun k => ?_) _ _ hn.1, ?_⟩, ?_⟩
  · unfold cntOf
    show _ ≤ (if k = 0 then _ else if k = 1 then (m.tables.length : Int) else if k = 2 then (m.mems.length : Int) else (((m.globals ++ [gNew]).length : Nat) : Int))
    split
    · exact Int.le_refl _
    · split
      · exact Int.le_refl _
      · split
        · exact Int.le_refl _
        · rw [List.length_append]; omega
  · have h2 := hn.2
    unfold startOk at h2 ⊢
    show (if m.start = -1 then true else _) = true
    split
    · rfl
    · rename_i hne
      rw [if_neg hne, Bool.and_eq_true, Bool.and_eq_true] at h2
      have es : sigOf (grown m i c) (grown m i c).start = sigOf m m.start := sigOf_wider hw h2.1.1
      rw [es, h2.1.1, h2.1.2, h2.2]; rfl
  · exact hs
/-- The parts of a module that is typed. -/
theorem check_parts {m : Module} (h : checkM m = 0) : encR m = 0 ∧ outerM m = true ∧ ∀ i, i < m.codes.length → (typedM m i).isSome = true := by
  unfold checkM at h
  split at h
  · rename_i hne; exact absurd h hne
  · rename_i he
    have he : encR m = 0 := by omega
    split at h
    · rename_i ho
      split at h
      · rename_i hall
        rw [List.all_eq_true] at hall
        exact ⟨he, ho, fun i hi => hall i (List.mem_range.2 hi)⟩
      · cases h
    · cases h
theorem check_make {m : Module} (he : encR m = 0) (ho : outerM m = true) (ht : ∀ i, i < m.codes.length → (typedM m i).isSome = true) : checkM m = 0 := by
  unfold checkM
  rw [if_neg (by rw [he]; simp), if_pos ho, if_pos]
  rw [List.all_eq_true]
  exact fun i hi => ht i (List.mem_range.1 hi)
theorem check_bad {m : Module} (he : encR m = 0) {i : Nat} (hi : i < m.codes.length) (ht : typedM m i = none) : checkM m = 12 := by
  unfold checkM
  rw [if_neg (by rw [he]; simp)]
  split
  · rw [if_neg]
    rw [List.all_eq_true]
    intro h
    have := h i (List.mem_range.2 hi)
    rw [ht] at this; cases this
  · rfl
/-- The law's answers. -/
theorem grow_law {m : Module} (h : checkM m = 0) (hsm : Small m) (ht : m.types.length < 256) (hg : m.globals.length < 512) {i : Nat} (hi : i < m.codes.length) {k : Nat} (hk : k = (sigOf m ((m.imports.length + i : Nat) : Int)).1.ins.length + m.codes[i].locals.length)
    (hlong : checkM (grown m i (preC (iGet 1048576) iDrop m.codes[i])) ≠ 4) :
    checkM (grown m i m.codes[i]) = 0 ∧ checkM (grown m i (preC (iGet k) iDrop m.codes[i])) = 12 ∧ checkM (grown m i (preC iZero iDrop m.codes[i])) = 0 := by
  obtain ⟨he, ho, hty⟩ := check_parts h
  have eo := encOk_of he
  have hsame := eo.same
  have hkl := kindOf_len eo.ty (kidx m ((m.imports.length + i : Nat) : Int))
  have hci := eo.codes _ (List.getElem_mem hi)
  have hloc := (codeE_okb _).1 hci
  have hk2 : k < 16384 := by
    have : (sigOf m ((m.imports.length + i : Nat) : Int)).1.ins.length ≤ 32 := hkl.1
    omega
  have hlong' : encR (grown m i (preC (iGet 1048576) iDrop m.codes[i])) ≠ 4 := by
    intro e
    apply hlong
    unfold checkM
    rw [if_pos (by rw [e]; omega), e]
  obtain ⟨e1, e2, e3⟩ := grown_enc he hsm ht hg hi k hk2 hlong'
  have hsig : ∀ j, j < m.codes.length → (sigOf m ((m.imports.length : Int) + (j : Int))).2 = true := fun j hj => by
    have := outerM_sig ho (f := m.imports.length + j) (by omega)
    rwa [Int.natCast_add] at this
  -- the typing of a grown module
  have typ : ∀ (c : Code) (j : Nat), j < m.codes.length → typedM (grown m i c) j = walkGo (grown m i c) ((sigOf m ((m.imports.length : Int) + (j : Int))).1.ins ++ (if j = i then c else (m.codes[j]?.getD c)).locals) (wk0 (sigOf m ((m.imports.length : Int) + (j : Int))).1.outs) (if j = i then c else (m.codes[j]?.getD c)).body := by
    intro c j hj
    have hset : (grown m i c).codes[j]? = some (if j = i then c else (m.codes[j]?.getD c)) := by
      show (m.codes.set i c)[j]? = _
      rw [List.getElem?_set]
      by_cases hji : i = j
      · subst hji; rw [if_pos rfl, if_pos hi, if_pos rfl]
      · rw [if_neg hji, if_neg (fun e => hji e.symm), List.getElem?_eq_getElem hj]; rfl
    unfold typedM
    rw [hset]
    show walkGo (grown m i c) ((sigOf (grown m i c) ((m.imports.length : Int) + (j : Int))).1.ins ++ _) (wk0 (sigOf (grown m i c) ((m.imports.length : Int) + (j : Int))).1.outs) _ = _
    rw [sigOf_wider (grown_wider m i c) (hsig j hj)]
  have old : ∀ j (hj : j < m.codes.length), (walkGo m ((sigOf m ((m.imports.length : Int) + (j : Int))).1.ins ++ m.codes[j].locals) (wk0 (sigOf m ((m.imports.length : Int) + (j : Int))).1.outs) m.codes[j].body).isSome = true := by
    intro j hj
    have := hty j hj
    unfold typedM at this
    rw [List.getElem?_eq_getElem hj] at this
    exact this
  have other : ∀ (c : Code) (j : Nat), j < m.codes.length → j ≠ i → (typedM (grown m i c) j).isSome = true := by
    intro c j hj hne
    rw [typ c j hj, if_neg hne, List.getElem?_eq_getElem hj, Option.getD_some, walk_wider (grown_wider m i c) _ (old j hj)]
    exact old j hj
  have hlen : ∀ c, (grown m i c).codes.length = m.codes.length := fun c => by show (m.codes.set i c).length = _; rw [List.length_set]
  refine ⟨check_make e1 (outerM_grown ho i _) (fun j hj => ?_), check_bad e2 (i := i) (by rw [hlen]; exact hi) ?_, check_make e3 (outerM_grown ho i _) (fun j hj => ?_)⟩
  · rw [hlen] at hj
    by_cases hji : j = i
    · subst hji
      rw [typ _ j hj, if_pos rfl, walk_wider (grown_wider m j _) _ (old j hj)]
      exact old j hj
    · exact other _ j hj hji
  · rw [typ _ i hi, if_pos rfl]
    refine walk_bad ?_ _
    rw [List.getElem?_eq_none_iff]
    show ((sigOf m _).1.ins ++ m.codes[i].locals).length ≤ ((k : Nat) : Int).toNat
    rw [List.length_append, ← Int.natCast_add, Int.toNat_natCast, hk]
    exact Nat.le_refl _
  · rw [hlen] at hj
    by_cases hji : j = i
    · subst hji
      rw [typ _ j hj, if_pos rfl]
      refine walk_zero _ ?_
      have := walk_wider (grown_wider m j (preC iZero iDrop m.codes[j])) _ (old j hj)
      show (walkGo (grown m j (preC iZero iDrop m.codes[j])) ((sigOf m ((m.imports.length : Int) + (j : Int))).1.ins ++ m.codes[j].locals) _ m.codes[j].body).isSome = true
      rw [this]
      exact old j hj
    · exact other _ j hj hji
end Go.Proofs.YtacjnpahlbibhaaDoor

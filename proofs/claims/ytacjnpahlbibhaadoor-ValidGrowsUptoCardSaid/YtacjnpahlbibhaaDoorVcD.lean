/- Verification conditions: regions whose order is drawn. -/
import Derived.Test.YtacjnpahlbibhaaDoorVcC
set_option linter.unusedVariables false
set_option linter.unusedSimpArgs false
namespace Go.Proofs.YtacjnpahlbibhaaDoor
open Go

section
variable {P : Program} {ops : Array Oper} {Q : Exit → Act → World → Prop} {S : World → Prop}
/-- Whatever order is picked from here on; what an operation that doesn't wait for every load makes of a world that meets 'S' meets 'S'. -/
def wpAnyS (P : Program) (ops : Array Oper) (Q : Exit → Act → World → Prop) (S : World → Prop) : Nat → Array Bool → Act → World → Prop
  | 0, listed, a, w => Region.ready .any ops listed = [] ∧ Q .normal a w
  | fuel + 1, listed, a, w =>
    (Region.ready .any ops listed = [] → Q .normal a w) ∧
    ∀ i ∈ Region.ready .any ops listed, wpOp P ops Q i (fun a' w' => (needS ops i = true → S w → S w') ∧ wpAnyS P ops Q S fuel (listed.setIfInBounds i true) a' w') a w
theorem wpAny_of_S : ∀ (fuel : Nat) (listed : Array Bool) (a : Act) (w : World), wpAnyS P ops Q S fuel listed a w → wpAny P .any ops Q fuel listed a w
  | 0, _, _, _, h => h
  | fuel + 1, _, _, _, h => ⟨h.1, fun i hi => wpOp_mono (fun a' w' h' => wpAny_of_S fuel _ a' w' h'.2) (h.2 i hi)⟩
theorem needS_of {i j : Nat} {oi oj : Oper} (hi : ops[i]? = some oi) (hj : ops[j]? = some oj) (hl : isLoad oi.op = true) (hne : i ≠ j)
    (hno : ∀ e ∈ oj.after, Region.binds .any e = true → e.on ≠ i) : needS ops j = true := by
  unfold needS
  simp only [hj]
  rw [List.any_eq_true]
  refine ⟨i, List.mem_range.2 (Array.getElem?_eq_some_iff.1 hi).1, ?_⟩
  simp only [hi, hl, Bool.true_and, Bool.and_eq_true, Bool.not_eq_true']
  refine ⟨?_, ?_⟩
  · cases hb : Nat.beq i j with
    | false => rfl
    | true => exact absurd (Nat.eq_of_beq_eq_true hb) hne
  · unfold waitsOn
    cases hb : (oj.after.toList.any fun e => Region.binds .any e && Nat.beq e.on i) with
    | false => rfl
    | true =>
      obtain ⟨e, he, h⟩ := List.any_eq_true.1 hb
      simp only [Bool.and_eq_true] at h
      exact absurd (Nat.eq_of_beq_eq_true h.2) (hno e (by simpa using he) h.1)
theorem wpAnyS_first {i : Nat} {oi : Oper} {v : Value} (hi : ops[i]? = some oi) (hsel : ∀ (j : Nat) (o : Oper) cs b, ops[j]? = some o → o.op ≠ .select cs b)
    (hQ : ∀ c a w, Q (.panic c) (a.put oi.dst v) w → Q (.panic c) a w) :
    ∀ (fuel : Nat) (listed : Array Bool) (a : Act) (w : World),
      (∀ j oj, ops[j]? = some oj → j ≠ i → listed.getD j true = false → (∀ e ∈ oj.after, Region.binds .any e = true → e.on ≠ i) → oi.apart ops oj = true) →
      i ∈ Region.ready .any ops listed → YieldsIf P ops (fun w => isLoad oi.op = true → S w) oi v a → (isLoad oi.op = true → S w) →
      wpAnyS P ops Q S fuel (listed.setIfInBounds i true) (a.put oi.dst v) w → wpAnyS P ops Q S (fuel + 1) listed a w := by
  intro fuel
  induction fuel with
  | zero =>
    intro listed a w _ hr hy hS H
    refine ⟨fun h => (by rw [h] at hr; cases hr), fun j hj => ?_⟩
    by_cases hji : j = i
    · subst hji; exact hy.wpOp hi hS ⟨fun _ h => h, H⟩
    · have := ready_mono hj hji
      rw [H.1] at this
      cases this
  | succ fuel ih =>
    intro listed a w hfree hr hy hS H
    refine ⟨fun h => (by rw [h] at hr; cases hr), fun j hj => ?_⟩
    by_cases hji : j = i
    · subst hji; exact hy.wpOp hi hS ⟨fun _ h => h, H⟩
    · have h1 := H.2 j (ready_mono hj hji)
      obtain ⟨hjun, oj, hoj, hall⟩ := mem_ready.1 hj
      have hnot : ∀ e ∈ oj.after, Region.binds .any e = true → e.on ≠ i := fun e he hb heq => by
        have h1 := hall e he hb
        have h0 := (mem_ready.1 hr).1
        rw [heq] at h1
        rcases Nat.lt_or_ge i listed.size with h' | h'
        · simp [h'] at h0 h1; rw [h0] at h1; cases h1
        · simp [Array.getElem?_eq_none h'] at h1
      have h2 := wpOp_putIf hoj (hfree j oj hoj hji hjun hnot) (fun cs b => hsel i oi cs b hi) (fun cs b => hsel j oj cs b hoj) hQ hy h1
      have hfree' : ∀ k ok, ops[k]? = some ok → k ≠ i → (listed.setIfInBounds j true).getD k true = false →
          (∀ e ∈ ok.after, Region.binds .any e = true → e.on ≠ i) → oi.apart ops ok = true := fun k ok hk hki hun hno => by
        refine hfree k ok hk hki ?_ hno
        by_cases hjk : j = k
        · subst hjk; exact hjun
        · rw [getD_set_ne true hjk] at hun; exact hun
      refine wpOp_mono (fun a' w' h3 => ?_) h2
      obtain ⟨hy', hn, H'⟩ := h3
      refine ⟨hn, ih (listed.setIfInBounds j true) a' w' hfree' (ready_mono hr (Ne.symm hji)) hy' (fun hl => hn (needS_of hi hoj hl (Ne.symm hji) hnot) (hS hl)) ?_⟩
      rw [Array.setIfInBounds_comm _ _ hji]
      exact H'

theorem allL_mem {α : Type} {l : List α} {f : α → Prop} (h : allL l f) : ∀ x ∈ l, f x := by
  induction l with
  | nil => intro x hx; cases hx
  | cons a r ih =>
    cases r with
    | nil => intro x hx; simp at hx; subst hx; exact h
    | cons b r =>
      intro x hx
      rcases List.mem_cons.1 hx with rfl | hx
      · exact h.1
      · exact ih h.2 x hx
theorem keepS_out {i : Nat} {w : World} {φ : Prop} (h : keepS ops S i w φ) : (needS ops i = true → S w) ∧ φ := by
  unfold keepS at h
  split at h
  · exact ⟨fun _ => h.1, h.2⟩
  · rename_i hn; exact ⟨fun x => (by rw [hn] at x; cases x), h⟩
/-- An operation that may be taken first: its value. -/
theorem opC_take {n : Nat} {Cd : Addr → Value → Prop} {o : Oper} {s : St} {w : World} {K : St → World → Prop} (h : opC P n ops (fun _ => Cd) o s w K)
    {a : Act} (hf : Fits n s a) (hns : ∀ cs b, o.op ≠ .select cs b) {i : Nat} (hi : ops[i]? = some o) (ht : takes P s ops i = true)
    (hC : ∀ w, S w → ∀ p v, Cd p v → w.cell? p = some v) :
    ∃ v s', YieldsIf P ops (fun w => isLoad o.op = true → S w) o v a ∧ Fits n s' (a.put o.dst v) ∧ Ag (dl o.dst) s s' ∧ K s' w := by
  unfold takes at ht
  simp only [hi] at ht
  unfold opC at h
  split at h
  · exact h.elim
  rename_i ch0 hch0
  simp only [hch0] at ht
  have hw := wanted_iff hf hch0
  split at h
  · rename_i htr
    have hno := trim_skip hf.kn htr
    obtain ⟨s', hK, hf', hag⟩ := hf.put h (vr := undef) (fun _ => rfl) (fun _ => rfl)
    refine ⟨undef, s', .inr ⟨?_, rfl⟩, hf', hag, hK⟩
    cases hb : Region.wanted o (yielded ops a.tmps) with
    | false => rfl
    | true => exact absurd (hw.1 hb) hno
  · rename_i ch htr
    simp only [htr] at ht
    have hiff := trim_run hf.kn htr
    have hw' : Region.wanted o (yielded ops a.tmps) = true ↔ Holds s.σ ch := hw.trans hiff
    have fin : ∀ v, (s.put n o.dst v ch fun s' => K s' w) → (Holds s.σ ch → ∀ w, (isLoad o.op = true → S w) → (execOp a.eval o).run P w = .ok (.value v) w) →
        ∃ v s', YieldsIf P ops (fun w => isLoad o.op = true → S w) o v a ∧ Fits n s' (a.put o.dst v) ∧ Ag (dl o.dst) s s' ∧ K s' w := by
      intro v hput hr
      by_cases hh : Holds s.σ ch
      · obtain ⟨s', hK, hf', hag⟩ := hf.put hput (vr := v) (fun _ => rfl) (fun x => absurd hh x)
        exact ⟨v, s', .inl ⟨hw'.2 hh, hr hh⟩, hf', hag, hK⟩
      · obtain ⟨s', hK, hf', hag⟩ := hf.put hput (vr := undef) (fun x => absurd x hh) (fun _ => rfl)
        refine ⟨undef, s', .inr ⟨?_, rfl⟩, hf', hag, hK⟩
        cases hb : Region.wanted o (yielded ops a.tmps) with
        | false => rfl
        | true => exact absurd (hw'.1 hb) hh
    split at h
    · rename_i x hpk
      split at h
      · rename_i hs; exact fin _ h (fun hh w _ => pickKn_run hf hpk hs hh w)
      · exact h.elim
    · split at h
      · rename_i hp
        split at h
        · rename_i hs
          obtain ⟨v, hput, hr⟩ := pure_step hf hp hs hns h
          exact fin v hput (fun hh w hSw => hr hh w (fun hl => hC w (hSw hl)))
        · exact h.elim
      · rename_i hp
        rw [hp] at ht
        cases ht
theorem stepsTo_wpOp {o : Oper} {i : Nat} (hi : ops[i]? = some o) {a : Act} {w : World} {next : Act → World → Prop} (h : stepsTo P ops o a w next Q) : wpOp P ops Q i next a w := by
  unfold wpOp
  simp only [hi]
  unfold stepsTo at h
  split
  · rename_i hw; rw [if_pos hw] at h; exact .inl h
  · rename_i hw; rw [if_neg hw] at h; exact h
theorem mem_dstsOf {l : List Oper} {o : Oper} (ho : o ∈ l) : ∀ t ∈ dl o.dst, t ∈ dstsOf l := by
  induction l with
  | nil => cases ho
  | cons x r ih =>
    intro t ht
    rcases List.mem_cons.1 ho with rfl | ho
    · unfold dstsOf
      cases hd : o.dst with
      | none => simp [hd, dl] at ht
      | some d => simp [hd, dl] at ht; simp [ht]
    · have := ih ho t ht
      unfold dstsOf
      split
      · exact List.mem_cons_of_mem _ this
      · exact this
theorem Ag.close {ws : List Nat} {s s' : St} (h : Ag ws s s') (hc : s.cs = []) : Ag ws s s'.close := by
  refine ⟨h.at_, fun t ht hj => ?_, fun t ht hj => by simp [St.close] at hj⟩
  unfold St.close at hj
  simp only [List.mem_append] at hj
  rcases hj with hj | hj
  · have := h.cs t ht hj; rw [hc] at this; simp at this
  · exact h.jk t ht hj
theorem Fits.close {n : Nat} {s : St} {a : Act} (h : Fits n s a) : Fits n s.close a := by
  refine ⟨h.df, h.sz, fun t ht _ => ?_, fun t ht hh => absurd (Holds.nil _) hh, fun p hp => by simp [St.close] at hp⟩
  unfold St.close at ht ⊢
  simp only [List.mem_append, not_or] at ht
  exact h.on t ht.2 (by rw [mem_of_chainOf ht.1]; exact Holds.nil _)
theorem drawC_sound {n : Nat} {Cd : Addr → Value → Prop} {s0 : St} (hs0 : s0.cs = []) (hsel : Region.noSelect ops = true) (hC : ∀ w, S w → ∀ p v, Cd p v → w.cell? p = some v)
    (hQ : ∀ c a w, ¬ Q (.panic c) a w) {K : St → World → Prop}
    (hk : ∀ s' a' w', Fits n s' a' → Ag (dstsOf ops.toList) s0 s' → s'.cs = [] → s'.kn = [] → K s' w' → Q .normal a' w') :
    ∀ (fuel : Nat) (sv : Bool) (listed : Array Bool) (s : St) (a : Act) (w : World), Fits n s a → Ag (dstsOf ops.toList) s0 s → (sv = true → S w) →
      drawC P n ops S Cd fuel sv listed s w K → wpAnyS P ops Q S fuel listed a w := by
  have hfin : ∀ (s : St) (a : Act) (w : World), Fits n s a → Ag (dstsOf ops.toList) s0 s → K s.close w → Q .normal a w :=
    fun s a w hf hag hK => hk _ _ _ hf.close (hag.close hs0) rfl rfl hK
  intro fuel
  induction fuel with
  | zero =>
    intro sv listed s a w hf hag hsv h
    unfold drawC at h
    split at h
    · rename_i hr; exact ⟨hr, hfin s a w hf hag h⟩
    · exact h.elim
  | succ fuel ih =>
    intro sv listed s a w hf hag hsv h
    unfold drawC at h
    cases hrs : Region.ready .any ops listed with
    | nil =>
      simp only [hrs] at h
      exact ⟨fun _ => hfin s a w hf hag h, fun i hi => by rw [hrs] at hi; cases hi⟩
    | cons r0 rs0 =>
      simp only [hrs] at h
      split at h
      · rename_i i hfi
        have hmem := List.mem_of_find?_eq_some hfi
        have hprop := List.find?_some hfi
        simp only [Bool.and_eq_true] at hprop
        split at h
        · exact h.elim
        · rename_i o ho
          split at h
          · exact h.elim
          · rename_i hlsv
            have hns := fun cs b => Region.noSelect_spec hsel i o cs b ho
            obtain ⟨v, s', hy, hf', hag', hK⟩ := opC_take h hf hns ho hprop.1 hC
            refine wpAnyS_first ho (Region.noSelect_spec hsel) (fun c a w hq => absurd hq (hQ c _ w)) fuel listed a w (Region.free_spec ho hprop.2) (by rw [hrs]; exact hmem) hy ?_ ?_
            · intro hl
              rw [hl] at hlsv
              exact hsv (by simpa using hlsv)
            · exact ih sv _ s' _ w hf' (hag.trans (hag'.mono (mem_dstsOf (by simpa using Array.mem_of_getElem? ho)))) hsv hK
      · refine ⟨fun h0 => absurd h0 (by rw [hrs]; simp), fun i hi => ?_⟩
        rw [hrs] at hi
        have h := allL_mem h i hi
        split at h
        · exact h.elim
        · rename_i o ho
          have hns := fun cs b => Region.noSelect_spec hsel i o cs b ho
          refine stepsTo_wpOp ho (opC_sound h hf hns (fun p v hpv => hpv) (fun s' a' w' hf' hag' hK => ?_))
          obtain ⟨h1, h2⟩ := keepS_out hK
          exact ⟨fun hn _ => h1 hn, ih _ _ s' a' w' hf' (hag.trans (hag'.mono (mem_dstsOf (by simpa using Array.mem_of_getElem? ho)))) h1 h2⟩
theorem regC_sound {n : Nat} {s0 : St} (hs0 : s0.cs = []) (hsel : Region.noSelect ops = true) {K : St → World → Prop}
    (hk : ∀ s' a' w', Fits n s' a' → Ag (dstsOf ops.toList) s0 s' → s'.cs = [] → s'.kn = [] → K s' w' → Q .normal a' w') :
    ∀ (l : List Oper), (∀ o ∈ l, o ∈ ops.toList) → ∀ (s : St) (a : Act) (w : World), Fits n s a → Ag (dstsOf ops.toList) s0 s → regC P n ops l s w K → wpList P ops Q l a w := by
  intro l
  induction l with
  | nil => intro _ s a w hf hag h; exact hk _ _ _ hf.close (hag.close hs0) rfl rfl h
  | cons o r ih =>
    intro hl s a w hf hag h
    unfold regC at h
    have hns : ∀ cs b, o.op ≠ .select cs b := by
      intro cs b
      obtain ⟨i, hi⟩ := List.getElem?_of_mem (hl o (by simp))
      exact Region.noSelect_spec hsel i o cs b (by simpa using hi)
    have := opC_sound (Q := Q) h hf hns (fun p v hpv => hpv) (next := wpList P ops Q r) (fun s' a' w' hf' hag' hK =>
      ih (fun x hx => hl x (List.mem_cons_of_mem _ hx)) s' a' w' hf' (hag.trans (hag'.mono (mem_dstsOf (hl o (by simp))))) hK)
    unfold wpList
    unfold stepsTo at this
    split
    · rename_i hw; rw [if_pos hw] at this; exact .inl this
    · rename_i hw; rw [if_neg hw] at this; exact this
end
end Go.Proofs.YtacjnpahlbibhaaDoor

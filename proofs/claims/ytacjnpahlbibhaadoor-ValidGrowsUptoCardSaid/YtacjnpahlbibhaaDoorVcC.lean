/- Verification conditions: operations that turn the world; one operation of a region; a region whose order is fixed. -/
import Derived.Test.YtacjnpahlbibhaaDoorVcB
set_option linter.unusedVariables false
set_option linter.unusedSimpArgs false
namespace Go.Proofs.YtacjnpahlbibhaaDoor
open Go

section
variable {P : Program}
theorem stC_sound {p : Addr} : ∀ {vs : List Value} {i : Nat} {w : World} {K : World → Prop}, stC w p vs i K → ∃ w', (storeCells p vs i).run P w = .ok () w' ∧ K w' := by
  intro vs
  induction vs with
  | nil => intro i w K h; exact ⟨w, rfl, h⟩
  | cons v vs ih =>
    intro i w K h
    have key : ((∃ u, w.cell? (p.add i) = some u) ∧ w.frozen? (p.add i) = false ∧ stC (w.setCell (p.add i) v) p vs (i + 1) K) → v.oneCell' = true →
        ∃ w', (storeCells p (v :: vs) i).run P w = .ok () w' ∧ K w' := by
      rintro ⟨⟨u, hu⟩, hf, h⟩ hv
      obtain ⟨w', hr, hK⟩ := ih h
      refine ⟨w', ?_, hK⟩
      simp only [storeCells, Sem.run_bind]
      rw [run_store _ _ _ _ _ hv]
      simp [hu, hf, hr]
    cases v <;> first
      | exact h.elim
      | exact key h rfl
theorem RunV_out {m : Sem Value} {w : World} {K : Value → World → Prop} (h : RunV P m w K) : ∃ v w', m.run P w = .ok v w' ∧ K v w' := by
  unfold RunV at h
  split at h
  · rename_i v w' hr; exact ⟨v, w', hr, h⟩
  · exact h.elim
theorem RunU_out {m : Sem Unit} {w : World} {K : World → Prop} (h : RunU P m w K) : ∃ w', m.run P w = .ok () w' ∧ K w' := by
  unfold RunU at h
  split at h
  · rename_i v w' hr; exact ⟨w', hr, h⟩
  · exact h.elim
theorem exL_out : ∀ {ls : List Lf} {K : List Value → Prop}, exL ls K → ∃ vs, K vs := by
  intro ls
  induction ls with
  | nil => intro K h; exact ⟨_, h⟩
  | cons l ls ih => intro K h; obtain ⟨x, h⟩ := h; obtain ⟨vs, h⟩ := ih h; exact ⟨_, h⟩
theorem exS1_out {s : S1} {K : Value → Prop} (h : exS1 s K) : ∃ v, K v := by
  cases s with
  | lf l => obtain ⟨x, h⟩ := h; exact ⟨_, h⟩
  | agg ls => obtain ⟨vs, h⟩ := exL_out h; exact ⟨_, h⟩
theorem exSs_out : ∀ {ss : List S1} {K : List Value → Prop}, exSs ss K → ∃ vs, K vs := by
  intro ss
  induction ss with
  | nil => intro K h; exact ⟨_, h⟩
  | cons s ss ih => intro K h; obtain ⟨v, h⟩ := exS1_out h; obtain ⟨vs, h⟩ := ih h; exact ⟨_, h⟩
theorem typedV_out {t : TypeId} {v : Value} {K : Value → Prop} (h : typedV P t v K) : K v := by
  unfold typedV typed at h
  split at h
  · rename_i sh hsh
    unfold exSh at h
    split at h
    · obtain ⟨v', rfl, h⟩ := exS1_out h; exact h
    · obtain ⟨vs, h1, h2⟩ := exSs_out h; rw [h1]; exact h2
  · exact h.elim
theorem bsC_out {t e : TypeId} {len : Nat} {parts : Array (Nat × Value)} {K : Array Value → Prop} (hu : P.underlying t = some (.slice e)) (h : bsC P e len parts.toList K) :
    ∃ cells, K cells ∧ ∀ w, (Instr.buildSlice t len parts).run P w = .ok (.slice (some ⟨w.heap.size, 0, none⟩) len len) (w.alloc (.cells cells e)) := by
  unfold bsC at h
  split at h
  · exact h.elim
  · rename_i hi
    split at h
    · exact h.elim
    · rename_i hle
      have hle : len * szOf P e ≤ 4096 := Nat.le_of_ble_eq_true hle
      split at h
      · exact h.elim
      · rename_i zero hz
        split at h
        · rename_i cells hc
          refine ⟨cells, h, fun w => ?_⟩
          have hnot : ¬ len * szOf P e > 2 ^ 24 := by
            have : (4096 : Nat) ≤ 2 ^ 24 := by decide
            omega
          simp only [Instr.buildSlice, Sem.run_bind, run_und hu, Result.andThen_ok, run_sizeOf' hi, if_neg hnot, Sem.run_pure]
          cases hb : Nat.beq (len * szOf P e) 0 with
          | true =>
            simp only [hb] at hz
            cases hz
            rw [if_pos (Nat.eq_of_beq_eq_true hb)]
            simp only [Sem.run_bind, Sem.run_pure, Result.andThen_ok, hc, newRow, run_newObj]
            rfl
          | false =>
            simp only [hb] at hz
            rw [if_neg (Nat.ne_of_beq_eq_false hb)]
            unfold zeroOf at hz
            split at hz
            · rename_i i hi
              cases hzz : i.zero with
              | none => simp [hzz] at hz
              | some z =>
                simp [hzz] at hz
                subst hz
                simp only [Sem.run_bind, zeroValue, run_info hi, hzz, Sem.run_pure, Result.andThen_ok, hc, newRow, run_newObj]
                rfl
            · simp at hz
        · exact h.elim
theorem run_callFunc {f : FuncId} (h : Ent P f) (args : Array Value) (w : World) : (callFunc f args).run P w = .ok (.enter f args) w := by
  obtain ⟨fn, hf, hn, hb⟩ := h
  simp only [callFunc, Sem.run_bind, run_program, Result.andThen_ok, hf, hn, hb, Bool.false_eq_true, if_false]
  rfl
/-- An operation that turns the world: its condition suffices. -/
theorem actC_sound {ρ : Operand → Value} {o : Oper} {w : World} {K : Value → World → Prop} (h : actC P ρ o w K) {a : Act} {next : Act → World → Prop} {Q : Exit → Act → World → Prop}
    (he : execOp a.eval o = execOp ρ o) (hk : ∀ v w', K v w' → next (a.put o.dst v) w') : o.wp P a w next Q := by
  unfold Oper.wp
  rw [he]
  have hval : ∀ v w', (execOp ρ o).run P w = .ok (.value v) w' → K v w' → o.upon P a next Q ((execOp ρ o).run P w) := by
    intro v w' hr hK; rw [hr, Oper.upon_value]; exact hk v w' hK
  have hV : ∀ (m : Sem Value) (K' : Value → World → Prop), (execOp ρ o) = (do pure (.value (← m))) → RunV P m w K' → (∀ v w', K' v w' → K v w') → o.upon P a next Q ((execOp ρ o).run P w) := by
    intro m K' hm hr hK
    obtain ⟨v, w', hr, h1⟩ := RunV_out hr
    exact hval v w' (by rw [hm]; simp [hr]) (hK v w' h1)
  unfold actC at h
  split at h
  case h_1 t x y ho =>
    unfold asP at h
    split at h
    · split at h
      · rename_i q hx
        obtain ⟨hi, h⟩ := withSz_some h
        split at h
        · rename_i hsz
          have hsz := Nat.eq_of_beq_eq_true hsz
          obtain ⟨w', hr, hK⟩ := stC_sound (P := P) h
          have : (execOp ρ o).run P w = .ok .skip w' := by
            unfold execOp
            simp only [ho, Sem.run_bind, Instr.storeAt, hx, Instr.sureAddr, Sem.run_pure, Result.andThen_ok, storeVar, run_sizeOf' hi, hsz, ne_eq, not_true, if_false, hr]
          rw [this, Oper.upon_skip]
          exact hk _ _ hK
        · exact h.elim
      · exact h.elim
    · exact h.elim
  case h_2 t ho =>
    split at h
    · rename_i z hz
      refine hval _ _ ?_ h
      unfold zeroOf at hz
      split at hz
      · rename_i i hi
        unfold execOp
        simp [ho, Instr.alloc, zeroValue, run_info hi, hz, newVar, newRow]
      · cases hz
    · exact h.elim
  case h_3 t x ho =>
    refine hval _ _ ?_ h
    unfold execOp
    simp [ho, Instr.box, newVar, newRow]
  case h_4 t len parts ho =>
    split at h
    · rename_i e hu
      rw [show (parts.toList.map fun p => (p.1, ρ p.2)) = (parts.map fun p => (p.1, ρ p.2)).toList from by simp] at h
      obtain ⟨cells, hK, hr⟩ := bsC_out hu h
      refine hval _ _ ?_ hK
      unfold execOp
      simp only [ho, Sem.run_bind]
      rw [show (parts.map fun x : Nat × Operand => match x with | (i, x) => (i, ρ x)) = (parts.map fun p => (p.1, ρ p.2)) from rfl, hr]
      rfl
    · exact h.elim
  case h_5 c ho =>
    split at h
    · rename_i f hcal
      split at h
      · rename_i g first captured hf
        obtain ⟨hent, hc⟩ := h
        have : (execOp ρ o).run P w = .ok (.enter g (first ++ c.args.map ρ ++ captured)) w := by
          unfold execOp
          simp only [ho, Sem.run_bind, resolve, hcal, hf, Deferred.ofValue, Sem.run_pure, Result.andThen_ok, invoke]
          exact run_callFunc hent _ _
        rw [this, Oper.upon_enter]
        refine hc.mono ?_
        rintro e w' ⟨v, rfl, hv⟩
        exact hk _ _ (typedV_out hv)
      · exact h.elim
    · rename_i hcal
      exact hV _ _ (by unfold execOp; simp only [ho, resolve, hcal, invoke, builtin]; rfl) h (fun v w' hv => typedV_out hv)
    · rename_i hcal
      exact hV _ _ (by unfold execOp; simp only [ho, resolve, hcal, invoke, builtin]; rfl) h (fun v w' hv => typedV_out hv)
    · rename_i hcal
      exact hV _ _ (by unfold execOp; simp only [ho, resolve, hcal, invoke, builtin]; rfl) h (fun v w' hv => typedV_out hv)
    · rename_i hcal
      exact hV _ _ (by unfold execOp; simp only [ho, resolve, hcal, invoke, builtin]; rfl) h (fun v w' hv => typedV_out hv)
    · rename_i hcal
      exact hV _ _ (by unfold execOp; simp only [ho, resolve, hcal, invoke, builtin]; rfl) h (fun v w' hv => typedV_out hv)
    · exact h.elim
  case h_6 src dst x ho => exact hV _ _ (by unfold execOp; simp only [ho]) h (fun v w' hv => typedV_out hv)
  case h_7 t x y ho => exact hV _ _ (by unfold execOp; simp only [ho]) h (fun v w' hv => typedV_out hv)
  case h_8 t r ho => exact hV _ _ (by unfold execOp; simp only [ho]) h (fun v w' hv => typedV_out hv)
  case h_9 t x i ok ho => exact hV _ _ (by unfold execOp; simp only [ho]) h (fun v w' hv => typedV_out hv)
  case h_10 t m k v ho =>
    obtain ⟨w', hr, hK⟩ := RunU_out h
    have : (execOp ρ o).run P w = .ok .skip w' := by
      unfold execOp
      simp only [ho, Sem.run_bind, hr, Result.andThen_ok, Sem.run_pure]
    rw [this, Oper.upon_skip]
    exact hk _ _ hK
  case h_11 t x i ho => exact hV _ _ (by unfold execOp; simp only [ho]) h (fun v w' hv => typedV_out hv)
  case h_12 op t x y yt ho =>
    refine hV _ _ (by unfold execOp; simp only [ho]) h (fun v w' hv => ?_)
    unfold asB at hv
    split at hv
    · exact hv
    · exact hv.elim
  case h_13 t x ho => exact hV _ _ (by unfold execOp; simp only [ho]) h (fun v w' hv => typedV_out hv)
  case h_14 => exact h.elim

/-! ### One operation in its region -/
theorem seesAll_holds {n : Nat} {s : St} {a : Act} (hf : Fits n s a) {ch : Chain} {op : Op} (hnp : ∀ c a b, op ≠ .pick c a b) (h : seesAll s ch op = true) (hh : Holds s.σ ch) :
    ∀ x ∈ op.operands, a.eval x = ev s.σ x := by
  unfold seesAll at h
  split at h
  · exact absurd rfl (hnp _ _ _)
  · intro x hx
    exact hf.eval (Array.all_eq_true_iff_forall_mem.1 h x hx) hh
theorem pick_sound {n : Nat} {s : St} {a : Act} (hf : Fits n s a) {ch : Chain} {R : Prop → Prop} {C : Addr → Value → Prop} {c x y : Operand} {o : Oper} (ho : o.op = .pick c x y) {K : Value → Prop}
    (hs : seesAll s ch (.pick c x y) = true) (h : pureC P R C (ev s.σ) (.pick c x y) K) :
    ∃ v, K v ∧ (Holds s.σ ch → ∀ w, (execOp a.eval o).run P w = .ok (.value v) w) := by
  have hex : execOp a.eval o = (do pure (.value (if ← asBool (a.eval c) then a.eval x else a.eval y)) : Sem Next) := by unfold execOp; simp only [ho]
  unfold pureC asB at h
  simp only at h
  -- what is looked at
  have hc : Holds s.σ ch → a.eval c = ev s.σ c := by
    intro hh
    unfold seesAll at hs
    split at hs
    · rename_i heq; cases heq; simp only [Bool.and_eq_true] at hs; exact hf.eval hs.1.1 hh
    · rename_i hno
      exact hf.eval (Array.all_eq_true_iff_forall_mem.1 hs c (by simp [Op.operands])) hh
  have hx : ∀ t, ev s.σ c = .bool t → Holds s.σ ch → t = true → a.eval x = ev s.σ x := by
    intro t ht hh htt
    unfold seesAll at hs
    split at hs
    · rename_i heq; cases heq; simp only [Bool.and_eq_true] at hs
      refine hf.eval hs.1.2 (fun p hp => ?_)
      rcases List.mem_cons.1 hp with rfl | hp
      · rw [htt] at ht; exact ht
      · exact hh p hp
    · exact hf.eval (Array.all_eq_true_iff_forall_mem.1 hs x (by simp [Op.operands])) hh
  have hy : ∀ t, ev s.σ c = .bool t → Holds s.σ ch → t = false → a.eval y = ev s.σ y := by
    intro t ht hh htt
    unfold seesAll at hs
    split at hs
    · rename_i heq; cases heq; simp only [Bool.and_eq_true] at hs
      refine hf.eval hs.2 (fun p hp => ?_)
      rcases List.mem_cons.1 hp with rfl | hp
      · rw [htt] at ht; exact ht
      · exact hh p hp
    · exact hf.eval (Array.all_eq_true_iff_forall_mem.1 hs y (by simp [Op.operands])) hh
  split at h
  case h_2 => exact h.elim
  rename_i t ht
  have fin : ∀ v, ((t = true → ev s.σ x = v) ∧ (t = false → ev s.σ y = v)) → Holds s.σ ch → ∀ w, (execOp a.eval o).run P w = .ok (.value v) w := by
    rintro v ⟨h1, h2⟩ hh w
    rw [hex]
    simp only [Sem.run_bind, hc hh, ht, asBool, Sem.run_pure, Result.andThen_ok]
    cases t with
    | true => rw [hx true ht hh rfl, h1 rfl]; rfl
    | false => rw [hy false ht hh rfl, h2 rfl]; rfl
  split at h
  · split at h
    · rename_i b hb
      exact ⟨_, h, fin _ ⟨fun htt => by subst htt; rfl, fun htt => by subst htt; simpa using hb⟩⟩
    · exact h.elim
  · split at h
    · rename_i b hb
      exact ⟨_, h, fin _ ⟨fun htt => by subst htt; simpa using hb, fun htt => by subst htt; rfl⟩⟩
    · exact h.elim
  · exact h.elim
/-- Pure operations under their guards: a value for the slot, whatever comes of the guards. -/
theorem pure_step {n : Nat} {s : St} {a : Act} (hf : Fits n s a) {ch : Chain} {C : Addr → Value → Prop} {o : Oper} {K : Value → Prop}
    (hp : isPureP P o.op = true) (hs : seesAll s ch o.op = true) (hns : ∀ cs b, o.op ≠ .select cs b)
    (h : valsC s.σ ch fun gs => pureC P (Rq gs) (fun p v => Rq gs (C p v)) (ev s.σ) o.op K) :
    ∃ v, K v ∧ (Holds s.σ ch → ∀ w, (isLoad o.op = true → ∀ p v, C p v → w.cell? p = some v) → (execOp a.eval o).run P w = .ok (.value v) w) := by
  obtain ⟨gs, hK, hgs⟩ := valsC_sound h
  by_cases hpk : ∃ c x y, o.op = .pick c x y
  · obtain ⟨c, x, y, hpk⟩ := hpk
    rw [hpk] at hs hK
    obtain ⟨v, hv, hr⟩ := pick_sound (P := P) hf hpk hs hK
    exact ⟨v, hv, fun hh w _ => hr hh w⟩
  · have hnp : ∀ c x y, o.op ≠ .pick c x y := fun c x y e => hpk ⟨c, x, y, e⟩
    obtain ⟨v, hv, hr⟩ := pureC_sound hp hnp hK
    refine ⟨v, hv, fun hh w hw => ?_⟩
    have hg := hgs hh
    rw [execOp_congr o hns (seesAll_holds hf hnp hs hh)]
    exact hr (fun φ hφ => Rq_out hφ hg) w (fun hl p u hu => hw hl p u (Rq_out hu hg))
theorem pickKn_some {s : St} {op : Op} {x : Operand} (h : pickKn s op = some x) :
    ∃ c a b t, op = .pick (.tmp c) a b ∧ c ∉ s.jk ∧ chainOf s.cs c = [] ∧ knOf s.kn c = some t ∧ x = (if t then a else b) := by
  unfold pickKn at h
  split at h
  · rename_i c a b
    split at h
    · rename_i h1 h2 h3; exact ⟨c, a, b, true, rfl, hasN_false.1 h1, h2, h3, (Option.some.inj h).symm⟩
    · rename_i h1 h2 h3; exact ⟨c, a, b, false, rfl, hasN_false.1 h1, h2, h3, (Option.some.inj h).symm⟩
    · cases h
  · cases h
theorem pickKn_run {n : Nat} {s : St} {a : Act} (hf : Fits n s a) {ch : Chain} {o : Oper} {x : Operand} (h : pickKn s o.op = some x) (hs : s.sees ch x = true) (hh : Holds s.σ ch) (w : World) :
    (execOp a.eval o).run P w = .ok (.value (ev s.σ x)) w := by
  obtain ⟨c, u, v, t, ho, hj, hcs, hkn, rfl⟩ := pickKn_some h
  have hc : a.eval (.tmp c) = .bool t := by
    have h1 := hf.on c hj (by rw [hcs]; exact Holds.nil _)
    have h2 := hf.kn _ (knOf_mem hkn)
    simp only [Act.eval]
    rw [h1, h2]
  have hx := hf.eval hs hh
  unfold execOp
  simp only [ho, Sem.run_bind, hc, asBool, Sem.run_pure, Result.andThen_ok]
  cases t with
  | true => simp only [if_true] at hx ⊢; rw [hx]
  | false => simp only [Bool.false_eq_true, if_false] at hx ⊢; rw [hx]
/-- One operation, carried out or passed over. -/
def stepsTo (P : Program) (ops : Array Oper) (o : Oper) (a : Act) (w : World) (next : Act → World → Prop) (Q : Exit → Act → World → Prop) : Prop :=
  if Region.wanted o (yielded ops a.tmps) then o.wp P a w next Q else next (a.put o.dst undef) w
theorem opC_sound {n : Nat} {ops : Array Oper} {C : World → Addr → Value → Prop} {o : Oper} {s : St} {w : World} {K : St → World → Prop} (h : opC P n ops C o s w K)
    {a : Act} (hf : Fits n s a) (hns : ∀ cs b, o.op ≠ .select cs b) {next : Act → World → Prop} {Q : Exit → Act → World → Prop}
    (hC : ∀ p v, C w p v → w.cell? p = some v) (hk : ∀ s' a' w', Fits n s' a' → Ag (dl o.dst) s s' → K s' w' → next a' w') : stepsTo P ops o a w next Q := by
  unfold opC at h
  split at h
  · exact h.elim
  rename_i ch0 hch0
  have hw := wanted_iff hf hch0
  unfold stepsTo
  split at h
  · rename_i htr
    have hno := trim_skip hf.kn htr
    rw [if_neg (fun x => hno (hw.1 x))]
    obtain ⟨s', hK, hf', hag⟩ := hf.put h (vr := undef) (fun _ => rfl) (fun _ => rfl)
    exact hk _ _ _ hf' hag hK
  · rename_i ch htr
    have hiff := trim_run hf.kn htr
    have hw' : Region.wanted o (yielded ops a.tmps) = true ↔ Holds s.σ ch := hw.trans hiff
    have pureFin : ∀ v, (s.put n o.dst v ch fun s' => K s' w) → (Holds s.σ ch → (execOp a.eval o).run P w = .ok (.value v) w) →
        (if Region.wanted o (yielded ops a.tmps) then o.wp P a w next Q else next (a.put o.dst undef) w) := by
      intro v hput hr
      by_cases hh : Holds s.σ ch
      · rw [if_pos (hw'.2 hh)]
        unfold Oper.wp
        rw [hr hh, Oper.upon_value]
        obtain ⟨s', hK, hf', hag⟩ := hf.put hput (vr := v) (fun _ => rfl) (fun x => absurd hh x)
        exact hk _ _ _ hf' hag hK
      · rw [if_neg (fun x => hh (hw'.1 x))]
        obtain ⟨s', hK, hf', hag⟩ := hf.put hput (vr := undef) (fun x => absurd x hh) (fun _ => rfl)
        exact hk _ _ _ hf' hag hK
    split at h
    · rename_i x hpk
      split at h
      · rename_i hs
        exact pureFin _ h (fun hh => pickKn_run hf hpk hs hh w)
      · exact h.elim
    · split at h
      · rename_i hp
        split at h
        · rename_i hs
          obtain ⟨v, hput, hr⟩ := pure_step hf hp hs hns h
          exact pureFin v hput (fun hh => hr hh w (fun _ => hC))
        · exact h.elim
      · rename_i hp
        have hnp : ∀ c x y, o.op ≠ .pick c x y := by
          intro c x y e
          rw [e] at hp
          simp [isPureP, isPure] at hp
        split at h
        · split at h
          · rename_i hs
            have hh : Holds s.σ [] := Holds.nil _
            rw [if_pos (hw'.2 hh)]
            exact actC_sound h (execOp_congr o hns (seesAll_holds hf hnp hs hh)) (fun v w' hv => by
              obtain ⟨s', hK, hf', hag⟩ := hf.put hv (vr := v) (fun _ => rfl) (fun x => absurd hh x)
              exact hk _ _ _ hf' hag hK)
          · exact h.elim
        · rename_i g want
          split at h
          · rename_i hs
            unfold asB at h
            split at h
            · rename_i e he
              obtain ⟨h1, h2⟩ := h
              have hone : Holds s.σ [(g, want)] ↔ e = want := by
                constructor
                · intro hh; have := hh (g, want) (by simp); simp only at this; rw [he] at this; simpa using this
                · intro hh p hp; simp at hp; subst hp; simp only; rw [he, hh]
              by_cases hew : e = want
              · have hh := hone.2 hew
                rw [if_pos (hw'.2 hh)]
                have hfk : Fits n { s with kn := (g, want) :: s.kn } a := ⟨hf.df, hf.sz, hf.on, hf.off, fun p hp => by
                  rcases List.mem_cons.1 hp with rfl | hp
                  · simp only; rw [he, hew]
                  · exact hf.kn p hp⟩
                exact actC_sound (h1 hew) (execOp_congr o hns (seesAll_holds hf hnp hs hh)) (fun v w' hv => by
                  obtain ⟨s', hK, hf', hag⟩ := hfk.put hv (vr := v) (fun _ => rfl) (fun x => absurd (Holds.nil _) x)
                  exact hk _ _ _ hf' ⟨hag.at_, hag.jk, hag.cs⟩ hK)
              · have hne : e = !want := by cases e <;> cases want <;> simp_all
                rw [if_neg (fun x => hew (hone.1 (hw'.1 x)))]
                have hfk : Fits n { s with kn := (g, !want) :: s.kn } a := ⟨hf.df, hf.sz, hf.on, hf.off, fun p hp => by
                  rcases List.mem_cons.1 hp with rfl | hp
                  · simp only; rw [he, hne]
                  · exact hf.kn p hp⟩
                obtain ⟨s', hK, hf', hag⟩ := hfk.put (h2 hne) (vr := undef) (fun _ => rfl) (fun _ => rfl)
                exact hk _ _ _ hf' ⟨hag.at_, hag.jk, hag.cs⟩ hK
            · exact h.elim
          · exact h.elim
        · exact h.elim
end
end Go.Proofs.YtacjnpahlbibhaaDoor

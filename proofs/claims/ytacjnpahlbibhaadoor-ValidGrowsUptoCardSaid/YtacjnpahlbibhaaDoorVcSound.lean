/- Verification conditions: code, and calls. A function's condition suffices for a call of it. -/
import Derived.Test.YtacjnpahlbibhaaDoorVcD
set_option linter.unusedVariables false
set_option linter.unusedSimpArgs false
namespace Go.Proofs.YtacjnpahlbibhaaDoor
open Go

section
variable {P : Program}
/-- A round of a loop: what holds of its head is whatever is closed under rounds. -/
theorem wp_loop_lfp {c : Code} {Q : Exit → Act → World → Prop} {a : Act} {w : World}
    (h : ∀ L : Act → World → Prop, (∀ a w, c.wp P (Exit.then L Q) a w → L a w) → L a w) : (Code.loop c).wp P Q a w := by
  intro b k cs
  have key := h (fun a w => ∃ e a' w', Q e a' w' ∧ Arrives P (lone (b.at a (.code c :: .inLoop c :: k)) cs w) b k cs e a' w') (by
    intro a w hr
    obtain ⟨e, a₁, w₁, hq, harr⟩ := hr b (.inLoop c :: k) cs
    cases e with
    | normal =>
      obtain ⟨e₂, a₂, w₂, hq₂, harr₂⟩ := hq
      exact ⟨e₂, a₂, w₂, hq₂, .of_steps (Steps.trans harr (.one step_inLoop)) harr₂⟩
    | exit id => exact ⟨_, a₁, w₁, hq, .pass (x := .inLoop c) rfl (fun _ _ => .inl (by simp)) harr⟩
    | goto l => exact ⟨_, a₁, w₁, hq, .pass (x := .inLoop c) rfl (fun _ _ => .inl (by simp)) harr⟩
    | ret => exact ⟨_, a₁, w₁, hq, .pass (x := .inLoop c) rfl (fun _ _ => .inl (by simp)) harr⟩
    | panic ch => exact ⟨_, a₁, w₁, hq, .pass (x := .inLoop c) rfl (fun _ _ => .inl (by simp)) harr⟩
    | outgrown => exact ⟨_, a₁, w₁, hq, .pass (x := .inLoop c) rfl (fun _ _ => .inl (by simp)) harr⟩)
  obtain ⟨e, a', w', hq, harr⟩ := key
  exact ⟨e, a', w', hq, .of_steps (.one step_loop) harr⟩

/-- A state between regions. -/
structure Fit0 (n : Nat) (s : St) (a : Act) : Prop where
  fits : Fits n s a
  cs : s.cs = []
  kn : s.kn = []
theorem Fit0.at {n : Nat} {s : St} {a : Act} (h : Fit0 n s a) {t : Nat} (ht : t ∉ s.jk) : a.tmps.getD t undef = s.σ.get t :=
  h.fits.on t ht (by rw [h.cs]; exact Holds.nil _)
theorem asLf_out {l : Lf} {v : Value} {K : l.Ty → Prop} (h : asLf l v K) : ∃ x : l.Ty, v = l.val x ∧ K x := by
  unfold asLf at h
  split at h
  · split at h
    · rename_i hk; have := of_decide_eq_true hk; subst this; exact ⟨_, rfl, h⟩
    · exact h.elim
  · exact ⟨_, rfl, h⟩
  · exact ⟨_, rfl, h⟩
  · exact ⟨_, rfl, h⟩
  · exact ⟨_, rfl, h⟩
  · exact ⟨⟨_, _, _⟩, rfl, h⟩
  · exact ⟨_, rfl, h⟩
  · exact ⟨_, rfl, h⟩
  · exact h.elim
theorem mem_covers {ws dead : List Nat} {live : List (Nat × Lf)} (h : covers ws live dead = true) {t : Nat} (ht : t ∈ ws) : t ∈ dead ∨ t ∈ live.map (·.1) := by
  unfold covers at h
  simp only [Bool.and_eq_true] at h
  have := List.all_eq_true.1 h.1.1 t ht
  rcases Bool.or_eq_true_iff.1 this with h1 | h1
  · exact .inl (hasN_iff.1 h1)
  · obtain ⟨p, hp, hb⟩ := List.any_eq_true.1 h1
    exact .inr (List.mem_map.2 ⟨p, hp, Nat.eq_of_beq_eq_true hb⟩)
/-- The state at a join, where the slots 'ls' are set anew. -/
def setAll (s : St) : List (Nat × Value) → St
  | [] => s
  | (t, v) :: r => setAll (s.set t v) r
theorem St.set_cs (s : St) (t : Nat) (v : Value) : (s.set t v).cs = s.cs ∧ (s.set t v).kn = s.kn := ⟨rfl, rfl⟩
theorem setAll_cs (s : St) (l : List (Nat × Value)) : (setAll s l).cs = s.cs ∧ (setAll s l).kn = s.kn := by
  induction l generalizing s with
  | nil => exact ⟨rfl, rfl⟩
  | cons p r ih => obtain ⟨t, v⟩ := p; exact ih _
theorem mem_set_jk {s : St} {t u : Nat} {v : Value} : u ∈ (s.set t v).jk ↔ u ∈ s.jk ∧ u ≠ t := mem_delN
theorem setAll_out {s : St} : ∀ {l : List (Nat × Value)} {u : Nat}, u ∉ l.map (·.1) → ((setAll s l).σ.get u = s.σ.get u ∧ (u ∈ (setAll s l).jk ↔ u ∈ s.jk)) := by
  intro l
  induction l generalizing s with
  | nil => intro u _; exact ⟨rfl, Iff.rfl⟩
  | cons p r ih =>
    obtain ⟨t, v⟩ := p
    intro u hu
    simp only [List.map_cons, List.mem_cons, not_or] at hu
    obtain ⟨h1, h2⟩ := ih (s := s.set t v) hu.2
    refine ⟨h1.trans ?_, h2.trans ?_⟩
    · show Env.get ((t, v) :: s.σ) u = _; rw [Env.get_cons, if_neg hu.1]
    · rw [mem_set_jk]; exact ⟨fun x => x.1, fun x => ⟨x, hu.1⟩⟩
theorem setAll_jk {s : St} : ∀ {l : List (Nat × Value)} {u : Nat}, u ∈ (setAll s l).jk → u ∈ s.jk ∧ u ∉ l.map (·.1) := by
  intro l
  induction l generalizing s with
  | nil => intro u h; exact ⟨h, by simp⟩
  | cons p r ih =>
    obtain ⟨t, v⟩ := p
    intro u h
    obtain ⟨h1, h2⟩ := ih (s := s.set t v) h
    rw [mem_set_jk] at h1
    refine ⟨h1.1, ?_⟩
    simp only [List.map_cons, List.mem_cons, not_or]
    exact ⟨h1.2, h2⟩
def mkL : (ls : List (Nat × Lf)) → (St → World → Prop) → St → LP ls
  | [], G, s => fun w => G s w
  | (t, l) :: r, G, s => fun x => mkL r G (s.set t (l.val x))
/-- What 'faL' says: of every choice of values. -/
theorem faL_mk : ∀ (ls : List (Nat × Lf)) (s : St) (F : St → (World → Prop) → Prop) (G : St → World → Prop),
    (∀ vs : List (Nat × Value), vs.map (·.1) = ls.map (·.1) → F (setAll s vs) (fun w => G (setAll s vs) w)) → faL ls (mkL ls G s) s F := by
  intro ls
  induction ls with
  | nil => intro s F G h; exact h [] rfl
  | cons p r ih =>
    obtain ⟨t, l⟩ := p
    intro s F G h x
    exact ih (s.set t (l.val x)) F G (fun vs hvs => h ((t, l.val x) :: vs) (by simp [hvs]))
theorem apL_mk : ∀ (ls : List (Nat × Lf)) (s : St) (G : St → World → Prop) (s' : St) (w : World), apL ls (mkL ls G s) s' w →
    ∃ vs : List (Nat × Value), vs.map (·.1) = ls.map (·.1) ∧ (∀ p ∈ vs, p.1 ∉ s'.jk ∧ s'.σ.get p.1 = p.2) ∧ G (setAll s vs) w := by
  intro ls
  induction ls with
  | nil => intro s G s' w hw; exact ⟨[], rfl, (fun p hp => by cases hp), hw⟩
  | cons p r ih =>
    obtain ⟨t, l⟩ := p
    intro s G s' w hw
    unfold apL at hw
    split at hw
    · exact hw.elim
    · rename_i hj
      obtain ⟨x, he, hw⟩ := asLf_out hw
      obtain ⟨vs, h1, h2, h3⟩ := ih (s.set t (l.val x)) G s' w hw
      refine ⟨(t, l.val x) :: vs, by simp [h1], fun p hp => ?_, h3⟩
      rcases List.mem_cons.1 hp with rfl | hp
      · exact ⟨hasN_false.1 hj, he⟩
      · exact h2 p hp
theorem setAll_get {s s' : St} : ∀ {vs : List (Nat × Value)}, (∀ p ∈ vs, s'.σ.get p.1 = p.2) → ∀ u, u ∈ vs.map (·.1) → (setAll s vs).σ.get u = s'.σ.get u := by
  intro vs
  induction vs generalizing s with
  | nil => intro _ u hu; simp at hu
  | cons p r ih =>
    obtain ⟨t, v⟩ := p
    intro h u hu
    by_cases hr : u ∈ r.map (·.1)
    · exact ih (s := s.set t v) (fun q hq => h q (List.mem_cons_of_mem _ hq)) u hr
    · simp only [List.map_cons, List.mem_cons] at hu
      have hut : u = t := hu.resolve_right hr
      subst hut
      rw [show setAll s ((u, v) :: r) = setAll (s.set u v) r from rfl, (setAll_out hr).1]
      show Env.get ((u, v) :: s.σ) u = _
      rw [Env.get_cons, if_pos rfl]
      exact (h (u, v) (by simp)).symm
/-- A frame that fits at the end of the first part fits at the join. -/
theorem Fit0.join {n : Nat} {s0 s' : St} {a' : Act} {ws dead : List Nat} {live : List (Nat × Lf)} {vs : List (Nat × Value)} (hcov : covers ws live dead = true)
    (hag : Ag ws s0 s') (h : Fit0 n s' a') (hv1 : vs.map (·.1) = live.map (·.1)) (hv2 : ∀ p ∈ vs, p.1 ∉ s'.jk ∧ s'.σ.get p.1 = p.2) (hc : s0.cs = []) (hkn : s0.kn = []) :
    Fit0 n (setAll (s0.kill dead) vs) a' := by
  obtain ⟨e1, e2⟩ := setAll_cs (s0.kill dead) vs
  have e1 : (setAll (s0.kill dead) vs).cs = [] := e1.trans hc
  have e2 : (setAll (s0.kill dead) vs).kn = [] := e2.trans hkn
  refine ⟨⟨h.fits.df, h.fits.sz, fun t ht _ => ?_, fun t ht hh => absurd (by rw [e1]; exact Holds.nil _) hh, fun p hp => by rw [e2] at hp; cases hp⟩, e1, e2⟩
  by_cases hlv : t ∈ vs.map (·.1)
  · have hmem := List.mem_map.1 hlv
    obtain ⟨p, hp, rfl⟩ := hmem
    rw [h.at (hv2 p hp).1, setAll_get (fun q hq => (hv2 q hq).2) _ hlv]
  · obtain ⟨g1, g2⟩ := setAll_out (s := s0.kill dead) hlv
    rw [g2] at ht
    have ht' : t ∉ dead ∧ t ∉ s0.jk := by
      unfold St.kill at ht
      simp only [List.mem_append, not_or] at ht
      exact ht
    have hnw : t ∉ ws := fun hw => by
      rcases mem_covers hcov hw with hd | hl
      · exact ht'.1 hd
      · rw [← hv1] at hl; exact hlv hl
    have hnj : t ∉ s'.jk := fun hj => ht'.2 (hag.jk t hnw hj)
    rw [h.at hnj, g1]
    exact hag.at_ t hnw
theorem Ag.join {ws dead : List Nat} {s0 : St} {live : List (Nat × Lf)} {vs : List (Nat × Value)} (hv1 : vs.map (·.1) = live.map (·.1)) (hsub : ∀ t ∈ dead, t ∈ ws) (hsub2 : ∀ t ∈ live.map (·.1), t ∈ ws) :
    Ag ws s0 (setAll (s0.kill dead) vs) := by
  refine ⟨fun t ht => ?_, fun t ht hj => ?_, fun t ht hj => by rw [(setAll_cs _ _).1] at hj; exact hj⟩
  · have hlv : t ∉ vs.map (·.1) := fun x => ht (hsub2 t (hv1 ▸ x))
    exact (setAll_out (s := s0.kill dead) hlv).1
  · have := (setAll_jk hj).1
    unfold St.kill at this
    simp only [List.mem_append] at this
    exact this.resolve_left (fun x => ht (hsub t x))
theorem covers_sub {ws dead : List Nat} {live : List (Nat × Lf)} (h : covers ws live dead = true) : (∀ t ∈ dead, t ∈ ws) ∧ (∀ t ∈ live.map (·.1), t ∈ ws) := by
  unfold covers at h
  simp only [Bool.and_eq_true] at h
  refine ⟨fun t ht => hasN_iff.1 (List.all_eq_true.1 h.1.2 t ht), fun t ht => ?_⟩
  obtain ⟨p, hp, rfl⟩ := List.mem_map.1 ht
  exact hasN_iff.1 (List.all_eq_true.1 h.2 p hp)
/-- Every way out of a piece of code. -/
structure Outs (n : Nat) (ws : List Nat) (s : St) (N : St → World → Prop) (X : Nat → St → World → Prop) (Rt : St → World → Prop) (Q : Exit → Act → World → Prop) : Prop where
  N : ∀ s' a' w', Fit0 n s' a' → Ag ws s s' → N s' w' → Q .normal a' w'
  X : ∀ i s' a' w', Fit0 n s' a' → Ag ws s s' → X i s' w' → Q (.exit i) a' w'
  R : ∀ s' a' w', Fit0 n s' a' → Ag ws s s' → Rt s' w' → Q .ret a' w'
theorem vc_sound (hm : P.follows .mixedOrders = true) {n : Nat} : ∀ (c : Code) (an : An) (s : St) (a : Act) (w : World) (N : St → World → Prop) (X : Nat → St → World → Prop) (Rt : St → World → Prop) (Q : Exit → Act → World → Prop),
    Fit0 n s a → vc P n c an s w N X Rt → Outs n (writes c) s N X Rt Q → c.wp P Q a w := by
  intro c
  induction c with
  | skip =>
    intro an s a w N X Rt Q hf h ho
    unfold vc at h
    exact wp_skip (ho.N s a w hf (Ag.refl _ _) h)
  | exit id =>
    intro an s a w N X Rt Q hf h ho
    unfold vc at h
    exact wp_exit (ho.X id s a w hf (Ag.refl _ _) h)
  | ret =>
    intro an s a w N X Rt Q hf h ho
    unfold vc at h
    exact wp_ret (ho.R s a w hf (Ag.refl _ _) h)
  | region id ops draw =>
    intro an s a w N X Rt Q hf h ho
    have hag0 : Ag (dstsOf ops.toList) s s := Ag.refl _ _
    have hk : ∀ s' a' w', Fits n s' a' → Ag (dstsOf ops.toList) s s' → s'.cs = [] → s'.kn = [] → N s' w' → Q .normal a' w' :=
      fun s' a' w' h1 h2 h3 h4 h5 => ho.N s' a' w' ⟨h1, h3, h4⟩ h2 h5
    cases draw with
    | false =>
      unfold vc at h
      split at h
      · rename_i hsel
        exact wp_region_list (regC_sound hf.cs hsel hk ops.toList (fun _ h => h) s a w hf.fits hag0 h)
      · exact h.elim
    | true =>
      unfold vc at h
      split at h
      · exact h.elim
      · rename_i hsel
        refine Code.wp_mono (Q := fun e a w => match e with | .normal => Q .normal a w | _ => False) (fun e a w hq => by cases e <;> first | exact hq | exact hq.elim) ?_
        refine wp_region_any hm ?_
        split at h
        · obtain ⟨S, hS, h⟩ := h
          exact wpAny_of_S (S := S) _ _ _ _ (drawC_sound (S := S) (Q := fun e a w => match e with | .normal => Q .normal a w | _ => False) hf.cs hsel (fun w hw p v hpv => hpv w hw) (fun c a w hq => hq) hk _ true _ s a _ hf.fits hag0 (fun _ => hS) h)
        · exact wpAny_of_S (S := fun w' => w' = w.drew) _ _ _ _ (drawC_sound (S := fun w' => w' = w.drew) (Q := fun e a w => match e with | .normal => Q .normal a w | _ => False) hf.cs hsel (fun w' hw p v hpv => by subst hw; exact hpv) (fun c a w hq => hq) hk _ true _ s a _ hf.fits hag0 (fun _ => rfl) h)
  | seq x y ihx ihy =>
    intro an s a w N X Rt Q hf h ho
    cases an with
    | seq p q =>
      unfold vc at h
      refine wp_seq (ihx p s a w _ X Rt _ hf h ⟨?_, ?_, ?_⟩)
      · intro s' a' w' hf' hag hN
        exact ihy q s' a' w' N X Rt Q hf' hN ⟨fun s2 a2 w2 f2 g2 k2 => ho.N s2 a2 w2 f2 ((hag.mono (fun t ht => by simp [writes, ht])).trans (g2.mono (fun t ht => by simp [writes, ht]))) k2,
          fun i s2 a2 w2 f2 g2 k2 => ho.X i s2 a2 w2 f2 ((hag.mono (fun t ht => by simp [writes, ht])).trans (g2.mono (fun t ht => by simp [writes, ht]))) k2,
          fun s2 a2 w2 f2 g2 k2 => ho.R s2 a2 w2 f2 ((hag.mono (fun t ht => by simp [writes, ht])).trans (g2.mono (fun t ht => by simp [writes, ht]))) k2⟩
      · intro i s' a' w' hf' hag hX
        exact ho.X i s' a' w' hf' (hag.mono (fun t ht => by simp [writes, ht])) hX
      · intro s' a' w' hf' hag hR
        exact ho.R s' a' w' hf' (hag.mono (fun t ht => by simp [writes, ht])) hR
    | jn live dead p q =>
      unfold vc at h
      split at h
      case h_2 => exact h.elim
      rename_i hcov hok
      obtain ⟨hsub, hsub2⟩ := covers_sub hcov
      -- what is wanted of the second part
      have hJ := faL_mk live (s.kill dead) (fun s' Jw => ∀ w', vc P n y q s' w' N X Rt → Jw w') (fun s' w' => ∀ a', Fit0 n s' a' → Ag (writes x) s s' → y.wp P Q a' w') (by
        intro vs hvs w' hv a' hf' hag
        exact ihy q _ a' w' N X Rt Q hf' hv ⟨fun s2 a2 w2 f2 g2 k2 => ho.N s2 a2 w2 f2 ((hag.mono (fun t ht => by simp [writes, ht])).trans (g2.mono (fun t ht => by simp [writes, ht]))) k2,
          fun i s2 a2 w2 f2 g2 k2 => ho.X i s2 a2 w2 f2 ((hag.mono (fun t ht => by simp [writes, ht])).trans (g2.mono (fun t ht => by simp [writes, ht]))) k2,
          fun s2 a2 w2 f2 g2 k2 => ho.R s2 a2 w2 f2 ((hag.mono (fun t ht => by simp [writes, ht])).trans (g2.mono (fun t ht => by simp [writes, ht]))) k2⟩)
      refine wp_seq (ihx p s a w _ X Rt _ hf (h _ hJ) ⟨?_, ?_, ?_⟩)
      · intro s' a' w' hf' hag hN
        obtain ⟨vs, hv1, hv2, hG⟩ := apL_mk live (s.kill dead) _ s' w' hN
        exact hG a' (Fit0.join hcov hag hf' hv1 hv2 hf.cs hf.kn) (Ag.join hv1 hsub hsub2)
      · intro i s' a' w' hf' hag hX
        exact ho.X i s' a' w' hf' (hag.mono (fun t ht => by simp [writes, ht])) hX
      · intro s' a' w' hf' hag hR
        exact ho.R s' a' w' hf' (hag.mono (fun t ht => by simp [writes, ht])) hR
    | nil => exact h.elim
    | cond _ _ => exact h.elim
    | blk _ => exact h.elim
    | lp _ _ _ => exact h.elim
  | cond c x y ihx ihy =>
    intro an s a w N X Rt Q hf h ho
    cases an with
    | cond p q =>
      unfold vc at h
      split at h
      · rename_i hs
        unfold asB at h
        split at h
        · rename_i b hb
          have hc : a.eval c = .bool b := by rw [hf.fits.eval hs (Holds.nil _)]; exact hb
          refine wp_cond_split hc (fun ht => ?_) (fun ht => ?_)
          · exact ihx p s a w N X Rt Q hf (h.1 ht) ⟨fun s2 a2 w2 f2 g2 k2 => ho.N s2 a2 w2 f2 (g2.mono (fun t ht => by simp [writes, ht])) k2,
              fun i s2 a2 w2 f2 g2 k2 => ho.X i s2 a2 w2 f2 (g2.mono (fun t ht => by simp [writes, ht])) k2, fun s2 a2 w2 f2 g2 k2 => ho.R s2 a2 w2 f2 (g2.mono (fun t ht => by simp [writes, ht])) k2⟩
          · exact ihy q s a w N X Rt Q hf (h.2 ht) ⟨fun s2 a2 w2 f2 g2 k2 => ho.N s2 a2 w2 f2 (g2.mono (fun t ht => by simp [writes, ht])) k2,
              fun i s2 a2 w2 f2 g2 k2 => ho.X i s2 a2 w2 f2 (g2.mono (fun t ht => by simp [writes, ht])) k2, fun s2 a2 w2 f2 g2 k2 => ho.R s2 a2 w2 f2 (g2.mono (fun t ht => by simp [writes, ht])) k2⟩
        · exact h.elim
      · exact h.elim
    | nil => exact h.elim
    | seq _ _ => exact h.elim
    | jn _ _ _ _ => exact h.elim
    | blk _ => exact h.elim
    | lp _ _ _ => exact h.elim
  | block id c ih =>
    intro an s a w N X Rt Q hf h ho
    cases an with
    | blk p =>
      unfold vc at h
      refine wp_block (ih p s a w N _ Rt _ hf h ⟨fun s2 a2 w2 f2 g2 k2 => ho.N s2 a2 w2 f2 g2 k2, fun i s2 a2 w2 f2 g2 k2 => ?_, fun s2 a2 w2 f2 g2 k2 => ho.R s2 a2 w2 f2 g2 k2⟩)
      show (if i = id then Q .normal a2 w2 else Q (.exit i) a2 w2)
      split at k2
      · rename_i hb; rw [if_pos (Nat.eq_of_beq_eq_true hb)]; exact ho.N s2 a2 w2 f2 g2 k2
      · rename_i hb; rw [if_neg (Nat.ne_of_beq_eq_false hb)]; exact ho.X i s2 a2 w2 f2 g2 k2
    | nil => exact h.elim
    | seq _ _ => exact h.elim
    | jn _ _ _ _ => exact h.elim
    | cond _ _ => exact h.elim
    | lp _ _ _ => exact h.elim
  | loop c ih =>
    intro an s a w N X Rt Q hf h ho
    cases an with
    | lp live dead p =>
      unfold vc at h
      split at h
      case h_2 => exact h.elim
      rename_i hcov hok
      obtain ⟨hsub, hsub2⟩ := covers_sub hcov
      refine wp_loop_lfp (fun L hL => ?_)
      let G : St → World → Prop := fun s' w' => ∀ a', Fit0 n s' a' → Ag (writes c) s s' → L a' w'
      have hJ := faL_mk live (s.kill dead) (fun s' Jw => ∀ w', vc P n c p s' w' (apL live (mkL live G (s.kill dead))) X Rt → Jw w') G (by
        intro vs hvs w' hv a' hf' hag
        refine hL a' w' (ih p _ a' w' _ X Rt _ hf' hv ⟨?_, ?_, ?_⟩)
        · intro s2 a2 w2 f2 g2 hN
          obtain ⟨vs2, hv1, hv2, hG⟩ := apL_mk live (s.kill dead) G s2 w2 hN
          exact hG a2 (Fit0.join hcov (hag.trans g2) f2 hv1 hv2 hf.cs hf.kn) (Ag.join hv1 hsub hsub2)
        · intro i s2 a2 w2 f2 g2 k2; exact ho.X i s2 a2 w2 f2 (hag.trans g2) k2
        · intro s2 a2 w2 f2 g2 k2; exact ho.R s2 a2 w2 f2 (hag.trans g2) k2)
      have := h _ hJ
      obtain ⟨vs2, hv1, hv2, hG⟩ := apL_mk live (s.kill dead) G s w this
      exact hG a (Fit0.join hcov (Ag.refl _ _) hf hv1 hv2 hf.cs hf.kn) (Ag.join hv1 hsub hsub2)
    | nil => exact h.elim
    | seq _ _ => exact h.elim
    | jn _ _ _ _ => exact h.elim
    | cond _ _ => exact h.elim
    | blk _ => exact h.elim
  | _ => intro an s a w N X Rt Q hf h ho; exact (by unfold vc at h; exact h.elim)

/-! ### A call -/
theorem resC_sound {n : Nat} {s : St} {a : Act} {w : World} (hf : Fit0 n s a) {f : ResultVar → Sem Value} (h1 : ∀ t, f (.tmp t) = pure (a.tmps.getD t undef))
    (h2 : ∀ ad t, f (.cell ad t) = (do loadVar t (← asAddr (a.tmps.getD ad undef)))) : ∀ {rs : List ResultVar} {K : List Value → Prop}, resC P s w rs K →
    ∃ vs, K vs ∧ (rs.mapM f).run P w = .ok vs w := by
  intro rs
  induction rs with
  | nil => intro K h; exact ⟨[], h, rfl⟩
  | cons r rs ih =>
    intro K h
    rw [List.mapM_cons]
    cases r with
    | tmp t =>
      unfold resC at h
      split at h
      · exact h.elim
      · rename_i hj
        obtain ⟨vs, hK, hr⟩ := ih h
        refine ⟨_, hK, ?_⟩
        simp only [Sem.run_bind, h1, Sem.run_pure, Result.andThen_ok, hr, hf.at (hasN_false.1 hj)]
    | cell ad t =>
      unfold resC at h
      split at h
      · exact h.elim
      · rename_i hj
        unfold asP at h
        split at h
        · split at h
          · rename_i q hx
            obtain ⟨v, h, hv⟩ := loadC_sound h
            obtain ⟨vs, hK, hr⟩ := ih h
            refine ⟨_, hK, ?_⟩
            simp only [Sem.run_bind, h2, hf.at (hasN_false.1 hj), hx, asAddr, Sem.run_pure, Result.andThen_ok, hv w (fun p v hpv => hpv), hr]
          · exact h.elim
        · exact h.elim
theorem results_by (fn : Func) (tmps : Array Value) : ∃ f : ResultVar → Sem Value, (∀ t, f (.tmp t) = pure (tmps.getD t undef)) ∧ (∀ ad t, f (.cell ad t) = (do loadVar t (← asAddr (tmps.getD ad undef)))) ∧
    results fn tmps = (do let vs ← fn.results.mapM f; pure (if h : vs.size = 1 then vs[0] else .tuple vs)) := ⟨_, fun _ => rfl, fun _ _ => rfl, rfl⟩
theorem retC_sound {n : Nat} {fn : Func} {R : Ending → World → Prop} {s : St} {a : Act} {w : World} (hf : Fit0 n s a) (h : retC P fn R s w) :
    a.defers = [] ∧ ∃ v, (results fn a.tmps).run P w = .ok v w ∧ R (.returned v) w := by
  refine ⟨hf.fits.df, ?_⟩
  unfold retC at h
  obtain ⟨f, h1, h2, h3⟩ := results_by fn a.tmps
  obtain ⟨vs, hK, hr⟩ := resC_sound hf h1 h2 h
  have hrun : (results fn a.tmps).run P w = .ok (if h : vs.toArray.size = 1 then vs.toArray[0] else .tuple vs.toArray) w := by
    rw [h3, Array.mapM_eq_mapM_toList]
    simp only [Sem.run_bind, Sem.run_map]
    rw [hr]
    rfl
  refine ⟨_, hrun, ?_⟩
  match vs, hK with
  | [], hK => exact hK
  | [v], hK => exact hK
  | _ :: _ :: _, hK => simpa using hK
theorem argEnv_get : ∀ (vs : List Value) (i t : Nat), (argEnv i vs).get t = if i ≤ t then (vs[t - i]?).getD undef else undef := by
  intro vs
  induction vs with
  | nil => intro i t; simp [argEnv, Env.get]
  | cons v vs ih =>
    intro i t
    unfold argEnv
    rw [Env.get_cons, ih]
    by_cases h : t = i
    · subst h; simp
    · rw [if_neg h]
      by_cases h1 : i + 1 ≤ t
      · rw [if_pos h1, if_pos (by omega), show t - i = (t - (i + 1)) + 1 from by omega]; rfl
      · rw [if_neg h1, if_neg (by omega)]
theorem calls_of_vcF (hm : P.follows .mixedOrders = true) {f : FuncId} {fn : Func} {an : An} {args : List Value} {w : World} {R : Ending → World → Prop} (hfn : P.funcs[f]? = some fn)
    (h : vcF P fn an args w R) : Calls P f args.toArray w R := by
  unfold vcF at h
  split at h
  case h_2 => exact h.elim
  rename_i c hb
  split at h
  case h_2 => exact h.elim
  rename_i hle
  have hle : args.length ≤ fn.ntmps := Nat.le_of_ble_eq_true hle
  refine calls_of_wp hfn hb ?_
  have hfit : Fit0 fn.ntmps { σ := argEnv 0 args } { tmps := args.toArray ++ Array.replicate (fn.ntmps - args.toArray.size) undef, defers := [] } := by
    refine ⟨⟨rfl, by simp; omega, fun t _ _ => ?_, fun t _ hh => absurd (Holds.nil _) hh, fun p hp => by cases hp⟩, rfl, rfl⟩
    simp only [argEnv_get, Nat.zero_le, if_true, Nat.sub_zero, Array.getD_eq_getD_getElem?, Array.getElem?_append, List.size_toArray]
    by_cases ht : t < args.length
    · simp [ht]
    · rw [if_neg ht, List.getElem?_eq_none (by omega)]
      simp only [Option.getD_none, Array.getElem?_replicate]
      split <;> rfl
  refine vc_sound hm c an _ _ w _ _ _ _ hfit h ⟨fun s' a' w' f' _ k => ?_, fun i s' a' w' _ _ k => k.elim, fun s' a' w' f' _ k => ?_⟩
  · exact retC_sound f' k
  · exact retC_sound f' k
end
end Go.Proofs.YtacjnpahlbibhaaDoor

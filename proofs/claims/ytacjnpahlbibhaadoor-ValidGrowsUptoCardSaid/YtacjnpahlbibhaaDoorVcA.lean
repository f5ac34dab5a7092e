/- Verification conditions: the slots, and operations that leave the world as it is. -/
import Derived.Test.YtacjnpahlbibhaaDoorVcDef
import Derived.WalkKit
set_option linter.unusedVariables false
set_option linter.unusedSimpArgs false
namespace Go.Proofs.YtacjnpahlbibhaaDoor
open Go

/-! ### Lists of numbers -/
theorem hasN_iff {l : List Nat} {t : Nat} : hasN l t = true ↔ t ∈ l := by
  induction l with
  | nil => simp [hasN]
  | cons k r ih =>
    unfold hasN
    split
    · rename_i h; have := Nat.eq_of_beq_eq_true h; simp [this]
    · rename_i h; have : k ≠ t := Nat.ne_of_beq_eq_false h
      rw [ih]; simp [Ne.symm this]
theorem hasN_false {l : List Nat} {t : Nat} : hasN l t = false ↔ t ∉ l := by
  rw [← hasN_iff]; cases hasN l t <;> simp
theorem mem_delN {l : List Nat} {d t : Nat} : t ∈ delN l d ↔ t ∈ l ∧ t ≠ d := by
  induction l with
  | nil => simp [delN]
  | cons k r ih =>
    unfold delN
    split
    · rename_i h; have := Nat.eq_of_beq_eq_true h; subst this; rw [ih]
      constructor
      · rintro ⟨a, b⟩; exact ⟨List.mem_cons_of_mem _ a, b⟩
      · rintro ⟨a, b⟩; exact ⟨(List.mem_cons.1 a).resolve_left b, b⟩
    · rename_i h; have hk : k ≠ d := Nat.ne_of_beq_eq_false h
      rw [List.mem_cons, ih, List.mem_cons]
      constructor
      · rintro (a | ⟨a, b⟩)
        · subst a; exact ⟨.inl rfl, hk⟩
        · exact ⟨.inr a, b⟩
      · rintro ⟨a | a, b⟩
        · exact .inl a
        · exact .inr ⟨a, b⟩
theorem chainOf_delC_self (cs : List (Nat × Chain)) (d : Nat) : chainOf (delC cs d) d = [] := by
  induction cs with
  | nil => rfl
  | cons p r ih =>
    obtain ⟨k, c⟩ := p
    unfold delC
    split
    · exact ih
    · rename_i h; simp only [chainOf, h]; exact ih
theorem chainOf_delC_ne (cs : List (Nat × Chain)) {d t : Nat} (hne : t ≠ d) : chainOf (delC cs d) t = chainOf cs t := by
  induction cs with
  | nil => rfl
  | cons p r ih =>
    obtain ⟨k, c⟩ := p
    unfold delC
    split
    · rename_i h; have := Nat.eq_of_beq_eq_true h; subst this
      have hk : Nat.beq k t = false := by cases hb : Nat.beq k t with | false => rfl | true => exact absurd (Nat.eq_of_beq_eq_true hb).symm hne
      rw [ih]; simp only [chainOf, hk]
    · simp only [chainOf]; rw [ih]
theorem mem_of_chainOf {cs : List (Nat × Chain)} {t : Nat} (h : t ∉ cs.map (·.1)) : chainOf cs t = [] := by
  induction cs with
  | nil => rfl
  | cons p r ih =>
    obtain ⟨k, c⟩ := p
    simp only [List.map_cons, List.mem_cons, not_or] at h
    have hk : Nat.beq k t = false := by cases hb : Nat.beq k t with | false => rfl | true => exact absurd (Nat.eq_of_beq_eq_true hb).symm h.1
    simp only [chainOf, hk]; exact ih h.2
theorem delC_keys {cs : List (Nat × Chain)} {d t : Nat} (h : t ∈ (delC cs d).map (·.1)) : t ∈ cs.map (·.1) := by
  induction cs with
  | nil => simp [delC] at h
  | cons p r ih =>
    obtain ⟨k, c⟩ := p
    unfold delC at h
    split at h
    · exact List.mem_cons_of_mem _ (ih h)
    · simp only [List.map_cons, List.mem_cons] at h ⊢; exact h.imp id ih
theorem Env.get_cons (σ : Env) (d t : Nat) (v : Value) : Env.get ((d, v) :: σ) t = if t = d then v else σ.get t := by
  cases h : Nat.beq d t with
  | true => simp only [Env.get, h]; rw [if_pos (Nat.eq_of_beq_eq_true h).symm]
  | false => simp only [Env.get, h]; rw [if_neg (Ne.symm (Nat.ne_of_beq_eq_false h))]
theorem knOf_mem {kn : List (Nat × Bool)} {g : Nat} {b : Bool} (h : knOf kn g = some b) : (g, b) ∈ kn := by
  induction kn with
  | nil => simp [knOf] at h
  | cons p r ih =>
    obtain ⟨k, c⟩ := p
    unfold knOf at h
    split at h
    · rename_i hk; have := Nat.eq_of_beq_eq_true hk; subst this; simp at h; subst h; simp
    · exact List.mem_cons_of_mem _ (ih h)
theorem knOf_none {kn : List (Nat × Bool)} {g : Nat} (h : knOf kn g = none) (p : Nat × Bool) (hp : p ∈ kn) : p.1 ≠ g := by
  induction kn with
  | nil => cases hp
  | cons q r ih =>
    obtain ⟨k, c⟩ := q
    unfold knOf at h
    split at h
    · cases h
    · rename_i hk
      rcases List.mem_cons.1 hp with rfl | hp
      · exact Nat.ne_of_beq_eq_false hk
      · exact ih h hp
theorem hasG_false {ch : Chain} {g : Nat} (h : hasG ch g = false) (p : Nat × Bool) (hp : p ∈ ch) : p.1 ≠ g := by
  induction ch with
  | nil => cases hp
  | cons q r ih =>
    obtain ⟨k, c⟩ := q
    unfold hasG at h
    split at h
    · cases h
    · rename_i hk
      rcases List.mem_cons.1 hp with rfl | hp
      · exact Nat.ne_of_beq_eq_false hk
      · exact ih h hp
theorem hasP_mem {ch : Chain} {p : Nat × Bool} (h : hasP ch p = true) : p ∈ ch := by
  induction ch with
  | nil => simp [hasP] at h
  | cons q r ih =>
    obtain ⟨k, c⟩ := q
    unfold hasP at h
    split at h
    · rename_i h1 h2
      have := Nat.eq_of_beq_eq_true h1
      have h3 := eq_of_beq h2
      obtain ⟨p1, p2⟩ := p
      simp only at this h3
      subst this; subst h3; simp
    · exact List.mem_cons_of_mem _ (ih h)

theorem chain_ne {cs : List (Nat × Chain)} {d : Nat} (h : guards cs d = false) (t : Nat) : ∀ p ∈ chainOf cs t, p.1 ≠ d := by
  induction cs with
  | nil => intro p hp; cases hp
  | cons q r ih =>
    obtain ⟨k, c⟩ := q
    unfold guards at h ih
    simp only [List.any_cons, Bool.or_eq_false_iff] at h
    intro p hp
    cases hb : Nat.beq k t with
    | true => simp only [chainOf, hb] at hp; exact hasG_false h.1 p hp
    | false => simp only [chainOf, hb] at hp; exact ih h.2 p hp

/-! ### Slots and frames -/
def Holds (σ : Env) (ch : Chain) : Prop := ∀ p ∈ ch, σ.get p.1 = .bool p.2
theorem Holds.nil (σ : Env) : Holds σ [] := fun _ h => by cases h
structure Fits (n : Nat) (s : St) (a : Act) : Prop where
  df : a.defers = []
  sz : a.tmps.size = n
  on : ∀ t, t ∉ s.jk → Holds s.σ (chainOf s.cs t) → a.tmps.getD t undef = s.σ.get t
  off : ∀ t, t ∉ s.jk → ¬ Holds s.σ (chainOf s.cs t) → a.tmps.getD t undef = undef
  kn : ∀ p ∈ s.kn, s.σ.get p.1 = .bool p.2
/-- What becomes of the slots. -/
structure Ag (ws : List Nat) (s s' : St) : Prop where
  at_ : ∀ t, t ∉ ws → s'.σ.get t = s.σ.get t
  jk : ∀ t, t ∉ ws → t ∈ s'.jk → t ∈ s.jk
  cs : ∀ t, t ∉ ws → t ∈ s'.cs.map (·.1) → t ∈ s.cs.map (·.1)
theorem Ag.refl (ws : List Nat) (s : St) : Ag ws s s := ⟨fun _ _ => rfl, fun _ _ h => h, fun _ _ h => h⟩
theorem Ag.trans {ws : List Nat} {a b c : St} (h : Ag ws a b) (k : Ag ws b c) : Ag ws a c :=
  ⟨fun t ht => (k.at_ t ht).trans (h.at_ t ht), fun t ht hj => h.jk t ht (k.jk t ht hj), fun t ht hj => h.cs t ht (k.cs t ht hj)⟩
theorem Ag.mono {ws ws' : List Nat} {a b : St} (h : Ag ws a b) (hs : ∀ t ∈ ws, t ∈ ws') : Ag ws' a b :=
  ⟨fun t ht => h.at_ t (fun x => ht (hs t x)), fun t ht => h.jk t (fun x => ht (hs t x)), fun t ht => h.cs t (fun x => ht (hs t x))⟩
def dl (dst : Option Tmp) : List Nat := match dst with | some d => [d] | none => []

theorem Fits.put {n : Nat} {s : St} {a : Act} (hf : Fits n s a) {dst : Option Tmp} {v vr : Value} {ch : Chain} {K : St → Prop}
    (h : s.put n dst v ch K) (h1 : Holds s.σ ch → vr = v) (h2 : ¬ Holds s.σ ch → vr = undef) :
    ∃ s', K s' ∧ Fits n s' (a.put dst vr) ∧ Ag (dl dst) s s' := by
  unfold St.put at h
  cases dst with
  | none => exact ⟨s, h, hf, Ag.refl _ _⟩
  | some d =>
    simp only at h
    split at h
    case h_2 => exact h.elim
    case h_1 hd hg =>
      have hd : d < n := by simpa [Nat.blt_eq] using hd
      simp only [Bool.or_eq_false_iff] at hg
      obtain ⟨⟨hg1, hg2⟩, hg3⟩ := hg
      have hg2 : knOf s.kn d = none := by cases hk : knOf s.kn d <;> simp [hk] at hg2 ⊢
      have hgs : ∀ t, ∀ p ∈ chainOf s.cs t, p.1 ≠ d := chain_ne hg1
      have hold : ∀ c : Chain, (∀ p ∈ c, p.1 ≠ d) → (Holds ((d, v) :: s.σ) c ↔ Holds s.σ c) := by
        intro c hc
        unfold Holds
        constructor
        · intro hh p hp; have := hh p hp; rwa [Env.get_cons, if_neg (hc p hp)] at this
        · intro hh p hp; rw [Env.get_cons, if_neg (hc p hp)]; exact hh p hp
      have hch : ∀ p ∈ ch, p.1 ≠ d := hasG_false hg3
      have hget : ∀ t, (a.put (some d) vr).tmps.getD t undef = if t = d then vr else a.tmps.getD t undef := by
        intro t
        simp only [Act.put, Array.getD_eq_getD_getElem?, Array.getElem?_setIfInBounds]
        by_cases htd : d = t
        · subst htd; simp [hf.sz, hd]
        · simp [htd, Ne.symm htd]
      have hkn : ∀ p ∈ s.kn, Env.get ((d, v) :: s.σ) p.1 = .bool p.2 := by
        intro p hp; rw [Env.get_cons, if_neg (knOf_none hg2 p hp)]; exact hf.kn p hp
      have key : ∀ s' : St, s'.σ = (d, v) :: s.σ → s'.jk = delN s.jk d → s'.kn = s.kn → (chainOf s'.cs d = ch) → (∀ t, t ≠ d → chainOf s'.cs t = chainOf s.cs t) → (∀ t, t ∈ s'.cs.map (·.1) → t = d ∨ t ∈ s.cs.map (·.1)) →
          Fits n s' (a.put (some d) vr) ∧ Ag (dl (some d)) s s' := by
        intro s' e1 e2 e3 e4 e5 e6
        refine ⟨⟨hf.df, by simp [Act.put, hf.sz], ?_, ?_, ?_⟩, ⟨?_, ?_, ?_⟩⟩
        · intro t ht hh
          rw [e1] at hh ⊢
          rw [hget, Env.get_cons]
          by_cases htd : t = d
          · subst htd; rw [if_pos rfl, if_pos rfl]; rw [e4, hold ch hch] at hh; exact h1 hh
          · rw [if_neg htd, if_neg htd]
            rw [e5 t htd, hold _ (hgs t)] at hh
            rw [e2, mem_delN] at ht
            exact hf.on t (fun x => ht ⟨x, htd⟩) hh
        · intro t ht hh
          rw [e1] at hh
          rw [hget]
          by_cases htd : t = d
          · subst htd; rw [if_pos rfl]; rw [e4, hold ch hch] at hh; exact h2 hh
          · rw [if_neg htd]
            rw [e5 t htd, hold _ (hgs t)] at hh
            rw [e2, mem_delN] at ht
            exact hf.off t (fun x => ht ⟨x, htd⟩) hh
        · rw [e3, e1]; exact hkn
        · intro t ht; simp [dl] at ht; rw [e1, Env.get_cons, if_neg ht]
        · intro t ht hj; rw [e2, mem_delN] at hj; exact hj.1
        · intro t ht hj; simp [dl] at ht; exact (e6 t hj).resolve_left ht
      cases ch with
      | nil =>
        refine ⟨_, h, key _ rfl rfl rfl (chainOf_delC_self _ _) (fun t ht => chainOf_delC_ne _ ht) (fun t ht => .inr (delC_keys ht))⟩
      | cons p r =>
        refine ⟨_, h, key _ rfl rfl rfl ?_ ?_ ?_⟩
        · simp only [chainOf]
          rw [show Nat.beq d d = true from Nat.beq_refl d]
        · intro t ht
          have : Nat.beq d t = false := by cases hb : Nat.beq d t with | false => rfl | true => exact absurd (Nat.eq_of_beq_eq_true hb).symm ht
          simp only [chainOf, this]
          exact chainOf_delC_ne _ ht
        · intro t ht
          simp only [List.map_cons, List.mem_cons] at ht
          exact ht.imp id delC_keys

theorem subC_holds {kn : List (Nat × Bool)} {σ : Env} (hk : ∀ p ∈ kn, σ.get p.1 = .bool p.2) : ∀ {c ch : Chain}, subC kn c ch = true → Holds σ ch → Holds σ c := by
  intro c ch h hh
  induction c with
  | nil => exact Holds.nil _
  | cons p r ih =>
    unfold subC at h
    split at h
    · rename_i hp
      intro q hq
      rcases List.mem_cons.1 hq with rfl | hq
      · rcases Bool.or_eq_true_iff.1 hp with hp | hp
        · exact hh _ (hasP_mem hp)
        · exact hk _ (hasP_mem hp)
      · exact ih h q hq
    · cases h
/-- What is looked at under guards that hold is what the slots say. -/
theorem Fits.eval {n : Nat} {s : St} {a : Act} (hf : Fits n s a) {ch : Chain} {x : Operand} (h : s.sees ch x = true) (hh : Holds s.σ ch) : a.eval x = ev s.σ x := by
  cases x with
  | tmp t =>
    unfold St.sees at h
    simp only at h
    split at h
    · cases h
    · rename_i hj
      exact hf.on t (hasN_false.1 hj) (subC_holds hf.kn h hh)
  | const v => rfl
  | global g => rfl
  | func f => rfl

/-! ### Guards -/
theorem trim_skip {kn : List (Nat × Bool)} {σ : Env} (hk : ∀ p ∈ kn, σ.get p.1 = .bool p.2) : ∀ {ch : Chain}, trim kn ch = .skip → ¬ Holds σ ch := by
  intro ch
  induction ch with
  | nil => intro h; cases h
  | cons p r ih =>
    obtain ⟨g, w⟩ := p
    intro h hh
    unfold trim at h
    split at h
    · rename_i hr; exact ih hr (fun q hq => hh q (List.mem_cons_of_mem _ hq))
    · split at h
      · rename_i b hb
        split at h
        · cases h
        · rename_i hbw
          have h1 := hk _ (knOf_mem hb)
          have h2 := hh (g, w) (by simp)
          rw [h1] at h2
          simp at h2
          simp [h2] at hbw
      · cases h
theorem trim_run {kn : List (Nat × Bool)} {σ : Env} (hk : ∀ p ∈ kn, σ.get p.1 = .bool p.2) : ∀ {ch ch' : Chain}, trim kn ch = .run ch' → (Holds σ ch ↔ Holds σ ch') := by
  intro ch
  induction ch with
  | nil => intro ch' h; simp [trim] at h; subst h; rfl
  | cons p r ih =>
    obtain ⟨g, w⟩ := p
    intro ch' h
    have hc : ∀ (p : Nat × Bool) (r : Chain), Holds σ (p :: r) ↔ (σ.get p.1 = .bool p.2 ∧ Holds σ r) := by
      intro p r
      constructor
      · intro hh; exact ⟨hh p (by simp), fun q hq => hh q (List.mem_cons_of_mem _ hq)⟩
      · rintro ⟨h1, h2⟩ q hq
        rcases List.mem_cons.1 hq with rfl | hq
        · exact h1
        · exact h2 q hq
    unfold trim at h
    split at h
    · cases h
    · rename_i ch1 hr
      have ih' := ih hr
      split at h
      · rename_i b hb
        split at h
        · rename_i hbw
          cases h
          have h1 := hk _ (knOf_mem hb)
          have : b = w := by simpa using hbw
          subst this
          rw [hc]
          exact ⟨fun x => ih'.1 x.2, fun x => ⟨h1, ih'.2 x⟩⟩
        · cases h
      · cases h
        rw [hc, hc, ih']
/-- An operation is carried out just if its guards hold. -/
theorem wanted_iff {n : Nat} {ops : Array Oper} {s : St} {a : Act} {o : Oper} {ch : Chain} (hf : Fits n s a) (h : chainAt ops s o = some ch) :
    Region.wanted o (yielded ops a.tmps) = true ↔ Holds s.σ ch := by
  unfold chainAt at h
  cases hg : o.guard with
  | none =>
    simp only [hg] at h
    cases h
    simp [Region.wanted, hg, Holds.nil]
  | some jw =>
    obtain ⟨j, want⟩ := jw
    simp only [hg] at h
    split at h
    · rename_i oj hj
      split at h
      · rename_i g hgd
        split at h
        · cases h
        · rename_i hjk
          cases h
          have hjk := hasN_false.1 hjk
          have hw : Region.wanted o (yielded ops a.tmps) = (yielded ops a.tmps j == some want) := by simp [Region.wanted, hg]
          rw [hw]
          have hy : yielded ops a.tmps j = (match a.tmps.getD g undef with | .bool b => some b | _ => none) := by
            unfold yielded
            simp only [hj, Option.bind_some, hgd]
            cases ht : a.tmps[g]? with
            | none => simp [Array.getD_eq_getD_getElem?, ht, undef]
            | some u => simp only [Array.getD_eq_getD_getElem?, ht, Option.getD_some]; cases u <;> rfl
          rw [hy]
          by_cases hh : Holds s.σ (chainOf s.cs g)
          · rw [hf.on g hjk hh]
            constructor
            · intro h1 p hp
              rcases List.mem_cons.1 hp with rfl | hp
              · revert h1; simp only; cases s.σ.get g <;> simp
              · exact hh p hp
            · intro h1
              have := h1 (g, want) (by simp)
              simp only at this
              rw [this]; simp
          · rw [hf.off g hjk hh]
            constructor
            · intro h1; simp [undef] at h1
            · intro h1; exact absurd (fun p hp => h1 p (List.mem_cons_of_mem _ hp)) hh
      · cases h
    · cases h
theorem valsC_sound {σ : Env} : ∀ {ch : Chain} {K : List (Bool × Bool) → Prop}, valsC σ ch K → ∃ gs, K gs ∧ (Holds σ ch → ∀ p ∈ gs, p.1 = p.2) := by
  intro ch
  induction ch with
  | nil => intro K h; exact ⟨[], h, fun _ p hp => by cases hp⟩
  | cons p r ih =>
    obtain ⟨g, w⟩ := p
    intro K h
    unfold valsC asB at h
    split at h
    · rename_i e he
      obtain ⟨gs, hK, hgs⟩ := ih h
      refine ⟨_, hK, fun hh q hq => ?_⟩
      rcases List.mem_cons.1 hq with rfl | hq
      · have := hh (g, w) (by simp)
        simp only at this
        rw [he] at this
        simpa using this
      · exact hgs (fun q hq => hh q (List.mem_cons_of_mem _ hq)) q hq
    · exact h.elim
theorem Rq_out : ∀ {gs : List (Bool × Bool)} {φ : Prop}, Rq gs φ → (∀ p ∈ gs, p.1 = p.2) → φ := by
  intro gs
  induction gs with
  | nil => intro φ h _; exact h
  | cons p r ih =>
    obtain ⟨e, w⟩ := p
    intro φ h hp
    exact ih (h (hp (e, w) (by simp))) (fun q hq => hp q (List.mem_cons_of_mem _ hq))
end Go.Proofs.YtacjnpahlbibhaaDoor

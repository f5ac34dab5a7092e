/- ValidGrows: rows of parts, copied by append. -/
import Derived.Test.YtacjnpahlbibhaaDoorLawB
import Derived.Test.YtacjnpahlbibhaaDoorGrC
set_option linter.unusedVariables false
set_option linter.unusedSimpArgs false
set_option maxRecDepth 100000
namespace Go.Proofs.YtacjnpahlbibhaaDoor
open Go Go.RowKit

/-- A slice of memory that was made since. -/
structure Now (W0 W : World) (e : TypeId) (sz : Nat) (s : Sl) (vs : List Value) : Prop where
  own : Own W e sz s vs
  mod : Mod NoB W0 W
  fresh : ∀ b, s.isB b → W0.heap.size ≤ b
theorem Now.mod0 {W0 W W' : World} {e : TypeId} {sz : Nat} {s : Sl} {vs : List Value} (h : Now W0 W e sz s vs) (m : Mod NoB W W') : Now W0 W' e sz s vs := ⟨h.own.mod0 m, h.mod.trans0 m, h.fresh⟩
theorem Now.app {W0 W : World} {t tx ty e : TypeId} {z : Value} {sz bytes : Nat} {s : Sl} {vs : List Value} (h : Now W0 W e sz s vs) (hf : TyFacts Tryd.prog t e z sz bytes) (hz : z.cells.size = sz) {x : Value} {n : Nat} {news : List Value} (hs : Src Tryd.prog sz tx x n news W)
    (hby : bytes ≤ 100) (hl : s.len + n ≤ 1099511627776) {K : Value → World → Prop}
    (hk : ∀ s' W', Now W0 W' e sz s' (vs ++ news) → s'.len = s.len + n → Mod s.isB W W' → K s'.v W') : RunV Tryd.prog (Builtin.append_ #[t, tx] ty #[s.v, x]) W K := by
  have hb : (s.len + n) * bytes ≤ 140737488355328 := Nat.le_trans (Nat.mul_le_mul hl hby) (by omega)
  refine hf.append hz h.own hs hb (by unfold maxLen; omega) (fun s' W' ho hlen hm hb => hk s' W' ⟨ho, h.mod.trans hm (fun i hi y => by have := h.fresh i y; omega), fun b y => ?_⟩ hlen hm)
  have := h.mod.size
  rcases hb b y with y | y
  · exact h.fresh b y
  · omega
theorem Now.start {W W' : World} {b : Nat} {cs : Array Value} {e : TypeId} {sz n : Nat} (hb : b = W.heap.size) (hm : Mod NoB W W') (hc : W'.heap[b]? = some (.cells cs e (0, 0))) (hn : cs.size = n * sz) (hl : n ≤ maxLen) : Now W W' e sz ⟨some ⟨b, 0, none⟩, n, n⟩ cs.toList := by
  refine ⟨⟨by simp [hn], .inr ⟨b, cs, (0, 0), rfl, hc, .inl rfl, Nat.le_refl _, hl, hn, ?_⟩⟩, hm, fun k y => ?_⟩
  · exact List.take_of_length_le (by simp [hn])
  · obtain ⟨q, hq, e⟩ := y; cases hq; simp only at e; omega
/-- The values of a row of parts, as they stand. -/
def CopyOf {α : Type} (sz : Nat) (R : Rd → Addr → α → Prop) (r : Rd) (xs : List α) (vs : List Value) : Prop :=
  vs.length = xs.length * sz ∧ ∀ i x, xs[i]? = some x → ∃ q, R r q x ∧ ∀ j, j < sz → r (q.add j) = vs[i * sz + j]?
theorem copy_src {α : Type} {sz : Nat} {R : Rd → Addr → α → Prop} {r : Rd} {s : Sl} {xs : List α} (hsz : 0 < sz) (h : SlOf sz R r s xs) (hR : ∀ q x, R r q x → ∀ j, j < sz → ∃ v, r (q.add j) = some v ∧ v.oneCell' = true)
    {tx e' : TypeId} (hu : Program.underlying Tryd.prog tx = some (.slice e')) {W : World} (hr : Sub r W) : ∃ vs, CopyOf sz R r xs vs ∧ Src Tryd.prog sz tx s.v xs.length vs W := by
  obtain ⟨g, hg⟩ : ∃ g : Nat → Value, g = fun k => match s.a with | some q => (r (q.add k)).getD (.bool false) | none => .bool false := ⟨_, rfl⟩
  have key : ∀ k, k < xs.length * sz → ∃ q, s.a = some q ∧ r (q.add k) = some (g k) ∧ (g k).oneCell' = true := by
    intro k hk
    have hi : k / sz < xs.length := (Nat.div_lt_iff_lt_mul hsz).2 hk
    obtain ⟨q, hq, hc⟩ := h.get hi
    obtain ⟨v, hv, h1⟩ := hR _ _ hc (k % sz) (Nat.mod_lt _ hsz)
    rw [add_add, Nat.div_add_mod'] at hv
    have : g k = v := by rw [hg]; simp only [hq, hv, Option.getD_some]
    exact ⟨q, hq, by rw [this]; exact hv, by rw [this]; exact h1⟩
  have hget : ∀ k, k < xs.length * sz → ((List.range (xs.length * sz)).map g)[k]? = some (g k) := fun k hk => by simp [hk]
  refine ⟨(List.range (xs.length * sz)).map g, ⟨by simp, fun i x hx => ?_⟩, ?_⟩
  · obtain ⟨q, hq, hc⟩ := h.2 i x hx
    have hi : i < xs.length := by
      rcases Nat.lt_or_ge i xs.length with h' | h'
      · exact h'
      · rw [List.getElem?_eq_none h'] at hx; cases hx
    refine ⟨_, hc, fun j hj => ?_⟩
    have hlt : i * sz + j < xs.length * sz := by
      have : (i + 1) * sz ≤ xs.length * sz := Nat.mul_le_mul_right _ hi
      rw [Nat.succ_mul] at this; omega
    obtain ⟨q', hq', hk, _⟩ := key _ hlt
    rw [hq] at hq'; cases hq'
    rw [add_add, hk, hget _ hlt]
  · have hl := h.1
    suffices hsrc : Src Tryd.prog sz tx s.v s.len ((List.range (xs.length * sz)).map g) W by rw [hl] at hsrc; exact hsrc
    refine Src.read hu (by simp [hl]) (fun j u hj => ?_) (fun u hu => ?_)
    · have hlt : j < xs.length * sz := by
        rcases Nat.lt_or_ge j (xs.length * sz) with h' | h'
        · exact h'
        · rw [List.getElem?_eq_none (by simpa using h')] at hj; cases hj
      rw [hget _ hlt] at hj; cases hj
      obtain ⟨q, hq, hk, _⟩ := key _ hlt
      exact ⟨q, hq, hr _ _ hk⟩
    · obtain ⟨k, hk, rfl⟩ := List.mem_map.1 hu
      exact (key k (List.mem_range.1 hk)).choose_spec.2.2
/-- An owned slice, read back. -/
theorem Own.back {α : Type} {sz : Nat} (hsz : 0 < sz) {R : Rd → Addr → α → Prop} {r : Rd} {w : World} {e : TypeId} {s : Sl} {xs : List α} {vs : List Value} (h : Own w e sz s vs) (hlen : vs.length = xs.length * sz)
    (hR : ∀ i x q, xs[i]? = some x → s.isB q.block → (∀ j, j < sz → w.cell? (q.add j) = vs[i * sz + j]?) → R r q x) : SlOf sz R r s xs := by
  refine ⟨?_, fun i x hx => ?_⟩
  · have := h.1
    rw [hlen] at this
    exact (Nat.eq_of_mul_eq_mul_right hsz this).symm
  · have hi : i < xs.length := by
      rcases Nat.lt_or_ge i xs.length with h' | h'
      · exact h'
      · rw [List.getElem?_eq_none h'] at hx; cases hx
    have hlt : ∀ j, j < sz → i * sz + j < vs.length := fun j hj => by
      have : (i + 1) * sz ≤ xs.length * sz := Nat.mul_le_mul_right _ hi
      rw [Nat.succ_mul] at this; omega
    obtain ⟨q, hq, _⟩ := h.cell (List.getElem?_eq_getElem (hlt 0 hsz))
    refine ⟨q, hq, hR i x _ hx ⟨q, hq, (add_block _ _).symm⟩ (fun j hj => ?_)⟩
    obtain ⟨q', hq', hc⟩ := h.cell (List.getElem?_eq_getElem (hlt j hj))
    rw [hq] at hq'; cases hq'
    rw [add_add, hc, List.getElem?_eq_getElem (hlt j hj)]
/-! ### What a part needs -/
theorem SigR.some {r : Rd} {q : Addr} {x : Sig} (h : SigR r q x) : ∀ j, j < 2 → ∃ v, r (q.add j) = some v ∧ v.oneCell' = true := by
  obtain ⟨s0, s1, h0, h1, _⟩ := h
  intro j hj
  match j, hj with
  | 0, _ => exact ⟨_, h0, rfl⟩
  | 1, _ => exact ⟨_, h1, rfl⟩
theorem SigR.move {r r' : Rd} {q q' : Addr} {x : Sig} (h : SigR r q x) (hl : Le r r') (he : ∀ j, j < 2 → ∀ v, r (q.add j) = Option.some v → r' (q'.add j) = Option.some v) : SigR r' q' x := by
  obtain ⟨s0, s1, h0, h1, h2, h3, h4⟩ := h
  exact ⟨s0, s1, he 0 (by omega) _ h0, he 1 (by omega) _ h1, Ints.mono h2 hl, Ints.mono h3 hl, h4⟩
theorem GlobalR.some {r : Rd} {q : Addr} {x : Global} (h : GlobalR r q x) : ∀ j, j < 3 → ∃ v, r (q.add j) = some v ∧ v.oneCell' = true := by
  obtain ⟨h0, h1, s, h2, _⟩ := h
  intro j hj
  match j, hj with
  | 0, _ => exact ⟨_, h0, rfl⟩
  | 1, _ => exact ⟨_, h1, rfl⟩
  | 2, _ => exact ⟨_, h2, rfl⟩
theorem GlobalR.move {r r' : Rd} {q q' : Addr} {x : Global} (h : GlobalR r q x) (hl : Le r r') (he : ∀ j, j < 3 → ∀ v, r (q.add j) = Option.some v → r' (q'.add j) = Option.some v) : GlobalR r' q' x := by
  obtain ⟨h0, h1, s, h2, h3⟩ := h
  exact ⟨he 0 (by omega) _ h0, he 1 (by omega) _ h1, s, he 2 (by omega) _ h2, SlOf.mono InstrR.mono hl h3⟩
theorem FCodeR.some {r : Rd} {q : Addr} {x : Code} (h : FCodeR r q x) : ∀ j, j < 2 → ∃ v, r (q.add j) = some v ∧ v.oneCell' = true := by
  obtain ⟨s0, s1, h0, h1, _⟩ := h
  intro j hj
  match j, hj with
  | 0, _ => exact ⟨_, h0, rfl⟩
  | 1, _ => exact ⟨_, h1, rfl⟩
theorem FCodeR.move {r r' : Rd} {q q' : Addr} {x : Code} (h : FCodeR r q x) (hl : Le r r') (he : ∀ j, j < 2 → ∀ v, r (q.add j) = Option.some v → r' (q'.add j) = Option.some v) : FCodeR r' q' x := by
  obtain ⟨s0, s1, h0, h1, h2, h3⟩ := h
  exact ⟨s0, s1, he 0 (by omega) _ h0, he 1 (by omega) _ h1, Ints.mono h2 hl, SlOf.mono InstrR.mono hl h3⟩
theorem InstrR.some {r : Rd} {q : Addr} {x : Instr} (h : InstrR r q x) : ∀ j, j < 6 → ∃ v, r (q.add j) = some v ∧ v.oneCell' = true := by
  obtain ⟨h0, h1, h2, h3, h4, s, h5, _⟩ := h
  intro j hj
  match j, hj with
  | 0, _ => exact ⟨_, h0, rfl⟩
  | 1, _ => exact ⟨_, h1, rfl⟩
  | 2, _ => exact ⟨_, h2, rfl⟩
  | 3, _ => exact ⟨_, h3, rfl⟩
  | 4, _ => exact ⟨_, h4, rfl⟩
  | 5, _ => exact ⟨_, h5, rfl⟩
theorem InstrR.move {r r' : Rd} {q q' : Addr} {x : Instr} (h : InstrR r q x) (hl : Le r r') (he : ∀ j, j < 6 → ∀ v, r (q.add j) = Option.some v → r' (q'.add j) = Option.some v) : InstrR r' q' x := by
  obtain ⟨h0, h1, h2, h3, h4, s, h5, h6, h7⟩ := h
  exact ⟨he 0 (by omega) _ h0, he 1 (by omega) _ h1, he 2 (by omega) _ h2, he 3 (by omega) _ h3, he 4 (by omega) _ h4, s, he 5 (by omega) _ h5, Ints.mono h6 hl, h7⟩
end Go.Proofs.YtacjnpahlbibhaaDoor

/- ValidGrows: what was copied, read back; the rows of types, globals, bodies. -/
import Derived.Test.YtacjnpahlbibhaaDoorGrD
set_option linter.unusedVariables false
set_option linter.unusedSimpArgs false
set_option maxRecDepth 100000
namespace Go.Proofs.YtacjnpahlbibhaaDoor
open Go Go.RowKit

theorem lt_of_get {α : Type} {xs : List α} {i : Nat} {x : α} (h : xs[i]? = some x) : i < xs.length := by
  rcases Nat.lt_or_ge i xs.length with h' | h'
  · exact h'
  · rw [List.getElem?_eq_none h'] at h; cases h
theorem idx_lt {n sz i j : Nat} (hi : i < n) (hj : j < sz) : i * sz + j < n * sz := by
  have : (i + 1) * sz ≤ n * sz := Nat.mul_le_mul_right _ hi
  rw [Nat.succ_mul] at this; omega
/-- A copy with new parts behind it. -/
theorem back_append {α : Type} {sz : Nat} (hsz : 0 < sz) {R : Rd → Addr → α → Prop} {r rd : Rd} {W : World} {e : TypeId} {s : Sl} {vs news : List Value} {xs ys : List α}
    (hmove : ∀ q q' x, R r q x → (∀ j, j < sz → ∀ v, r (q.add j) = some v → rd (q'.add j) = some v) → R rd q' x) (ho : Own W e sz s (vs ++ news)) (c : CopyOf sz R r xs vs)
    (hrd : ∀ p v, W.cell? p = some v → s.isB p.block → rd p = some v) (hnew : news.length = ys.length * sz)
    (hy : ∀ i y q, ys[i]? = some y → (∀ j, j < sz → ∀ v, news[i * sz + j]? = some v → rd (q.add j) = some v) → R rd q y) : SlOf sz R rd s (xs ++ ys) := by
  refine ho.back hsz (by rw [List.length_append, List.length_append, c.1, hnew, Nat.add_mul]) (fun i x q hx hq hc => ?_)
  rcases Nat.lt_or_ge i xs.length with hi | hi
  · rw [List.getElem?_append_left hi] at hx
    obtain ⟨q0, h0, he⟩ := c.2 i x hx
    refine hmove q0 q x h0 (fun j hj v hv => hrd _ _ ?_ (by rw [add_block]; exact hq))
    rw [hc j hj, List.getElem?_append_left (by rw [c.1]; exact idx_lt hi hj), ← he j hj, hv]
  · rw [List.getElem?_append_right hi] at hx
    refine hy (i - xs.length) x q hx (fun j hj v hv => hrd _ _ ?_ (by rw [add_block]; exact hq))
    have hle : xs.length * sz ≤ i * sz := Nat.mul_le_mul_right _ hi
    rw [hc j hj, List.getElem?_append_right (by rw [c.1]; omega), c.1]
    have : i * sz + j - xs.length * sz = (i - xs.length) * sz + j := by rw [Nat.sub_mul]; omega
    rw [this, hv]
/-- A body with new instructions ahead of it. -/
theorem back_body {W : World} {r : Rd} (hr : Sub r W) {e : TypeId} {s : Sl} {vs : List Value} {l : List Instr} {x1 x2 : Instr} (ho : Own W e 6 s ((insC x1 ++ insC x2) ++ vs)) (c : CopyOf 6 InstrR r l vs) (b1 : InsBare x1) (b2 : InsBare x2) :
    CodeR W.cell? s (x1 :: x2 :: l) := by
  refine ho.back (by omega) (by rw [List.length_append, List.length_append, c.1, insC_len, insC_len, List.length_cons, List.length_cons]; omega) (fun i x q hx hq hc => ?_)
  have pre : ∀ k, k < 12 → ((insC x1 ++ insC x2) ++ vs)[k]? = (insC x1 ++ insC x2)[k]? := fun k hk => List.getElem?_append_left (by rw [List.length_append, insC_len, insC_len]; omega)
  match i, hx with
  | 0, hx =>
    simp at hx; subst hx
    refine InsN.instr (fun j v hv => ?_) b1
    have hj : j < 6 := lt_of_get hv
    rw [hc j hj, pre _ (by omega), List.getElem?_append_left (by rw [insC_len]; omega), Nat.zero_mul, Nat.zero_add, hv]
  | 1, hx =>
    simp at hx; subst hx
    refine InsN.instr (fun j v hv => ?_) b2
    have hj : j < 6 := lt_of_get hv
    rw [hc j hj, pre _ (by omega), List.getElem?_append_right (by rw [insC_len]; omega), insC_len, show 1 * 6 + j - 6 = j by omega, hv]
  | i + 2, hx =>
    simp only [List.getElem?_cons_succ] at hx
    obtain ⟨q0, h0, he⟩ := c.2 i x hx
    refine h0.move hr (fun j hj v hv => ?_)
    rw [hc j hj, List.getElem?_append_right (by rw [List.length_append, insC_len, insC_len]; omega), List.length_append, insC_len, insC_len, show (i + 2) * 6 + j - (6 + 6) = i * 6 + j by omega, ← he j hj, hv]
/-- The codes, one of them with another body. -/
theorem back_codes {W : World} {r : Rd} (hr : Sub r W) {e : TypeId} {s B : Sl} {vs : List Value} {xs : List Code} {i : Nat} (hi : i < xs.length) {l : List Instr} (ho : Own W e 2 s (vs.set (i * 2 + 1) B.v)) (c : CopyOf 2 FCodeR r xs vs) (hB : CodeR W.cell? B l) :
    SlOf 2 FCodeR W.cell? s (xs.set i ⟨xs[i].locals, l⟩) := by
  refine ho.back (by omega) (by rw [List.length_set, List.length_set, c.1]) (fun k x q hx hq hc => ?_)
  rw [List.getElem?_set] at hx
  by_cases hk : i = k
  · subst hk
    rw [if_pos rfl, if_pos hi] at hx
    cases hx
    obtain ⟨q0, ⟨s0, s1, h0, h1, h2, h3⟩, he⟩ := c.2 i _ (List.getElem?_eq_getElem hi)
    have hl : i * 2 + 1 < vs.length := by rw [c.1]; exact idx_lt hi (by omega)
    refine ⟨s0, B, ?_, ?_, Ints.mono h2 hr, hB⟩
    · rw [hc 0 (by omega), List.getElem?_set, if_neg (by omega), ← he 0 (by omega), h0]
    · rw [hc 1 (by omega), List.getElem?_set, if_pos rfl, if_pos hl]
  · rw [if_neg hk] at hx
    obtain ⟨q0, h0, he⟩ := c.2 k x hx
    refine h0.move hr (fun j hj v hv => ?_)
    rw [hc j hj, List.getElem?_set, if_neg (by omega), ← he j hj, hv]
/-- The first instruction of a body is another one. -/
theorem Own.first {w : World} {e : TypeId} {s : Sl} {x y : Instr} {vs : List Value} (h : Own w e 6 s (insC x ++ vs)) {q : Addr} (hq : s.a = some q) {K : World → Prop}
    (hk : ∀ w', Own w' e 6 s (insC y ++ vs) → Mod s.isB w w' → w'.heap.size = w.heap.size → K w') : stC w (q.add 0) (insC y) 0 K := by
  have hlen := h.1
  rw [List.length_append, insC_len] at hlen
  rcases h.2 with h' | ⟨g, cur, fr, ha, hh, hfr, hlc, hm, hcs, ht⟩
  · subst h'; cases hq
  · rw [ha] at hq; cases hq
    have hle : s.len * 6 ≤ s.cap * 6 := Nat.mul_le_mul_right _ hlc
    have hsz : 0 + (insC y).length ≤ cur.size := by rw [insC_len]; omega
    refine stC_fr (b := g) (o := 0) hfr (by rw [add_mk]) hh hsz (insC_one y) (fun w' h2 h3 h4 => ?_)
    have hss : (setL cur 0 (insC y)).size = cur.size := by simp [insC, setL]
    refine hk w' ⟨by rw [List.length_append, insC_len]; exact hlen, .inr ⟨g, _, fr, ha, h2, by rw [hss]; exact hfr, hlc, hm, by rw [hss]; exact hcs, ?_⟩⟩ (h3.mono (fun k _ e => ⟨_, ha, e.symm⟩)) h4
    apply List.ext_getElem?
    intro j
    rw [List.getElem?_take, Array.getElem?_toList, setL_get _ _ _ _ hsz]
    have hold : ∀ k, k < s.len * 6 → cur[k]? = (insC x ++ vs)[k]? := fun k hk => by rw [← ht, List.getElem?_take, if_pos hk, Array.getElem?_toList]
    by_cases hj : j < s.len * 6
    · rw [if_pos hj]
      by_cases h6 : j < 6
      · rw [if_pos ⟨Nat.zero_le _, by rw [insC_len]; omega⟩, List.getElem?_append_left (by rw [insC_len]; exact h6), Nat.sub_zero]
      · rw [if_neg (by rw [insC_len]; omega), hold j hj, List.getElem?_append_right (by rw [insC_len]; omega), List.getElem?_append_right (by rw [insC_len]; omega), insC_len, insC_len]
    · rw [if_neg hj, List.getElem?_eq_none (by rw [List.length_append, insC_len]; omega)]
end Go.Proofs.YtacjnpahlbibhaaDoor

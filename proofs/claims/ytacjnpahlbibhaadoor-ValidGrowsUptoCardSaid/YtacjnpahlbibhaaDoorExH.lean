/- Contracts: expr.closed. -/
import Derived.Test.YtacjnpahlbibhaaDoorExG
set_option linter.unusedVariables false
set_option linter.unusedSimpArgs false
set_option maxRecDepth 100000
namespace Go.Proofs.YtacjnpahlbibhaaDoor
open Go Go.RowKit

/-! ### Slices that shrink, cells that change -/
theorem Own.cut {w : World} {e : TypeId} {sz : Nat} {s : Sl} {xs : List Value} (h : Own w e sz s xs) {n : Nat} (hn : n ≤ s.len) : Own w e sz ⟨s.a, n, s.cap⟩ (xs.take (n * sz)) := by
  have hle : n * sz ≤ s.len * sz := Nat.mul_le_mul_right _ hn
  refine ⟨by rw [List.length_take, h.1]; exact Nat.min_eq_left hle, ?_⟩
  rcases h.2 with h' | ⟨g, cur, fr, ha, hh, hfr, hlc, hm, hcs, ht⟩
  · subst h'
    have : n = 0 := by simpa using hn
    subst this; exact .inl rfl
  · refine .inr ⟨g, cur, fr, ha, hh, hfr, by show n ≤ s.cap; omega, hm, hcs, ?_⟩
    rw [← ht, List.take_take, Nat.min_eq_left hle]
theorem Own.set {w : World} {e : TypeId} {sz : Nat} {s : Sl} {xs : List Value} (h : Own w e sz s xs) {q : Addr} (hq : s.a = some q) {i : Nat} (hi : i < xs.length) {v : Value} (h1 : v.oneCell' = true) {K : World → Prop}
    (hk : ∀ w', Own w' e sz s (xs.set i v) → Mod s.isB w w' → w'.heap.size = w.heap.size → K w') : stC w (q.add i) [v] 0 K := by
  rcases h.2 with h' | ⟨g, cur, fr, ha, hh, hfr, hlc, hm, hcs, ht⟩
  · subst h'; cases hq
  · rw [ha] at hq; cases hq
    have hle : s.len * sz ≤ s.cap * sz := Nat.mul_le_mul_right _ hlc
    have hi2 : i < cur.size := by have := h.1; omega
    refine stC_fr (b := g) (o := i) hfr (by rw [add_mk, Nat.zero_add]) hh (by simp; omega) (by simpa using h1) (fun w' h2 h3 h4 => hk w' ⟨by rw [List.length_set]; exact h.1, .inr ⟨g, _, fr, ha, h2, by simpa [setL] using hfr, hlc, hm, by simp [setL, hcs], ?_⟩⟩ (h3.mono (fun k _ e => ⟨_, ha, e.symm⟩)) h4)
    apply List.ext_getElem?
    intro j
    rw [List.getElem?_take]
    simp only [setL, Array.getElem?_toList, Array.getElem?_setIfInBounds, List.getElem?_set]
    by_cases hj : j < s.len * sz
    · rw [if_pos hj]
      by_cases he : i = j
      · subst he; rw [if_pos rfl, if_pos rfl, if_pos hi2, if_pos hi]
      · rw [if_neg he, if_neg he, ← ht, List.getElem?_take, if_pos hj]; simp
    · rw [if_neg hj, if_neg (by have := h.1; omega), List.getElem?_eq_none (by have := h.1; omega)]
theorem resl (c k : Nat) (a : Option Addr) : (if c = 0 then a else Option.map (fun p : Addr => p.add (0 * k)) a) = a := by
  split
  · rfl
  · cases a with
    | none => rfl
    | some p => rw [Option.map_some, Nat.zero_mul, add_zero]
theorem isB_cut {s : Sl} {n c : Nat} {b : Nat} : (⟨s.a, n, c⟩ : Sl).isB b ↔ s.isB b := Iff.rfl

/-! ### Instructions that stand in memory -/
def InstrR (r : Rd) (q : Addr) (x : Instr) : Prop :=
  r (q.add 0) = some (.int .i64 x.op) ∧ r (q.add 1) = some (.int .i64 x.a) ∧ r (q.add 2) = some (.int .i64 x.b) ∧ r (q.add 3) = some (.int .u64 x.lo) ∧ r (q.add 4) = some (.int .u64 x.hi) ∧
  ∃ s : Sl, r (q.add 5) = some s.v ∧ Ints r s x.l ∧ (-9223372036854775808 ≤ x.a ∧ x.a < 9223372036854775808)
theorem InstrR.mono : ∀ r r' q x, Le r r' → InstrR r q x → InstrR r' q x := by
  intro r r' q x h ⟨h0, h1, h2, h3, h4, s, h5, h6, h7⟩
  exact ⟨h _ _ h0, h _ _ h1, h _ _ h2, h _ _ h3, h _ _ h4, s, h _ _ h5, Ints.mono h6 h, h7⟩
abbrev CodeR (r : Rd) (s : Sl) (l : List Instr) : Prop := SlOf 6 InstrR r s l
theorem codeW_take (l : List Instr) (k : Nat) : codeW (l.take k) ≤ codeW l := by
  have : codeW l = codeW (l.take k) + codeW (l.drop k) := by
    unfold codeW
    rw [← List.sum_append, ← List.map_append, List.take_append_drop]
  omega
theorem codeW_len (l : List Instr) : 60 * l.length ≤ codeW l := by
  induction l with
  | nil => simp [codeW]
  | cons a r ih => unfold codeW at ih ⊢; rw [List.map_cons, List.sum_cons, List.length_cons]; unfold instrW at *; omega
theorem codeW_get {l : List Instr} {k : Nat} (h : k < l.length) : instrW l[k] ≤ codeW l := by
  have h1 := codeW_take l (k + 1)
  rw [List.take_succ_eq_append_getElem h] at h1
  unfold codeW at h1 ⊢
  rw [List.map_append, List.sum_append, List.map_cons, List.map_nil, List.sum_cons, List.sum_nil] at h1
  omega
theorem constE_len (x : Instr) (f : Int) : (constE x f).b.length ≤ 16 := by
  have h1 : (lebS (s32 x.lo)).length ≤ 10 := by have := s32_range x.lo; exact lebS_len10 (by omega) (by omega)
  have h2 : (lebS (s64 x.lo)).length ≤ 10 := lebS_len10 (s64_range x.lo).1 (s64_range x.lo).2
  have h3 := joinB_len x.lo x.hi
  unfold constE
  split
  · show (lebS (s32 x.lo)).length ≤ 16; omega
  · split
    · show (lebS (s64 x.lo)).length ≤ 16; omega
    · split
      · simp
      · split
        · simp
        · show (joinB x.lo x.hi).length ≤ 16; omega
theorem argE_len (x : Instr) (f : Int) (hw : instrW x ≤ big) (ha : -9223372036854775808 ≤ x.a ∧ x.a < 9223372036854775808) : (argE x f).b.length ≤ 21 + 10 * x.l.length := by
  have h1 := numE_len x.a
  have h2 := numE_len x.b
  have h3 := numsE_len x.l
  have h4 : (lebS x.a).length ≤ 10 := lebS_len10 ha.1 ha.2
  have h5 := constE_len x f
  unfold instrW big at hw
  have h6 : (lebU x.l.length).length ≤ 10 := lebU_len10 (by omega)
  unfold argE
  split
  · simp [E.nil]
  · split
    · split
      · simp; omega
      · show (lebS x.a).length ≤ _; omega
    · split
      · omega
      · split
        · simp only [E.app_b, List.length_append]
          omega
        · split
          · simp only [E.app_b, List.length_append]; omega
          · split
            · simp only [E.app_b, List.length_append, List.length_singleton]; omega
            · omega
theorem closed_spec (W : World) {s0 : Sl} {l : List Instr} {r : Rd} (hr : Sub r W) (h0 : CodeR r s0 l) (hl : l.length ≤ big) :
    Calls Tryd.prog f_expr_closed #[s0.v] W fun e W' => e = .returned (.bool (closedOk l)) ∧ Mod NoB W W' := by
  refine of_expr_closed _ _ _ ?_
  unfold V_expr_closed
  intro L hL
  have hlb : l.length ≤ 1099511627776 := hl
  have key : ∀ (n k : Nat) (st : List Int) (s3 : Sl) (W1 : World), n = l.length - k → k ≤ l.length → closedOk l = closedGo ((l.drop k).map (·.op)) st → st.length ≤ k → Own W1 ty_int 1 s3 (iv st) → Mod NoB W W1 → (∀ b, s3.isB b → W.heap.size ≤ b) → L s3 (k : Int) W1 := by
    intro n
    induction n with
    | zero =>
      intro k st s3 W1 hn hk hc hst ho hm hf
      have hk : k = l.length := by omega
      refine hL _ _ _ (Br.dec (fun h => by rw [h0.1] at h; omega) (fun _ => ⟨?_, hm⟩))
      rw [hc, hk, List.drop_length]; rfl
    | succ n ih =>
      intro k st s3 W1 hn hk hc hst ho hm hf
      have hlt : k < l.length := by omega
      have hs3 : s3.len = st.length := by have := ho.1; simpa using this.symm
      rw [List.drop_eq_getElem_cons hlt, List.map_cons, closedGo] at hc
      refine hL _ _ _ (Br.dec (fun _ => ?_) (fun hge => absurd (by rw [h0.1]; omega) hge))
      obtain ⟨q, hq, i0, i1, i2, i3, i4, sl, i5, _⟩ := h0.get hlt
      have hs := hr.mod0 hm
      refine ⟨q, ⟨hq, by omega, by rw [h0.1]; omega⟩, _, hs _ _ i0, _, hs _ _ i1, _, hs _ _ i2, _, hs _ _ i3, _, hs _ _ i4, sl, hs _ _ i5, ?_⟩
      refine Na.mk fun b5 W2 hb5 hm2 hs2 hc2 => ?_
      refine stC_at (b := b5) (o := 0) rfl hc2 (by simp) (by simp [Value.oneCell', Sl.v]) (fun W3 h3 m3 sz3 => ?_)
      rw [setL_all (by simp)] at h3
      have hlt5 := heap_lt hc2
      have hm13 : Mod NoB W1 W3 := hm2.trans m3 (fun i hi e => by omega)
      have hm3 := hm.trans0 hm13
      have ho3 := ho.mod0 hm13
      refine ⟨l[k].op, cell_of_heap h3 rfl, ?_⟩
      have w1 : IntKind.wrap .i64 ((k : Int) + 1) = ((k + 1 : Nat) : Int) := by rw [wrap_id (by omega) (by omega)]; omega
      have w2 : 0 < s3.len → IntKind.wrap .i64 ((s3.len : Int) - 1) = ((s3.len - 1 : Nat) : Int) := fun h => by rw [wrap_id (by omega) (by omega)]; omega
      intro J hJ
      by_cases hop : l[k].op = 2 ∨ l[k].op = 3 ∨ l[k].op = 4
      · rw [if_pos hop] at hc
        have hJt : J true W3 → Br ((l[k].op : Int) == 2) (J ((l[k].op : Int) == 2) W3) (Br ((l[k].op : Int) == 3) (J ((l[k].op : Int) == 3) W3) (J ((l[k].op : Int) == 4) W3)) := by
          intro h
          rcases hop with e | e | e <;> rw [e] <;> simpa only [Int.reduceBEq, Br_true, Br_false] using h
        refine hJt (hJ _ _ (Br.t ?_))
        refine Br.eq (fun he => ⟨?_, hm3⟩) (fun hne => ?_)
        · rw [hc, if_pos (by omega)]
        · rw [if_neg (by omega)] at hc
          refine ⟨l[k].op, cell_of_heap h3 rfl, ?_⟩
          refine Na.mk fun b6 W5 hb6 hm5 hs5 hc5 => ?_
          refine app_ints (ho3.mod0 hm5) (Ints.src (one_int hc5) (Sub.self _)) (by rw [List.length_singleton]; unfold big; omega) (fun s' W6 ho6 hm6 hb6' => ⟨s', rfl, ?_⟩)
          rw [w1]
          have g3 := hm3.size
          refine ih (k + 1) (st ++ [l[k].op]) s' W6 (by omega) hlt hc (by simp; omega) ho6 ((hm3.trans0 hm5).trans hm6 (fun i hi h => by have := hf i h; omega)) (fun b hb => ?_)
          rcases hb6' b hb with h | h
          · exact hf b h
          · have := hm5.size; omega
      · rw [if_neg hop] at hc
        have hJf : J false W3 → Br ((l[k].op : Int) == 2) (J ((l[k].op : Int) == 2) W3) (Br ((l[k].op : Int) == 3) (J ((l[k].op : Int) == 3) W3) (J ((l[k].op : Int) == 4) W3)) := by
          intro h
          have e2 : ((l[k].op : Int) == 2) = false := by simp; omega
          have e3 : ((l[k].op : Int) == 3) = false := by simp; omega
          have e4 : ((l[k].op : Int) == 4) = false := by simp; omega
          rw [e2, e3, e4]; simpa only [Br_false] using h
        refine hJf (hJ _ _ (Br.f ?_))
        by_cases h5 : l[k].op = 5
        · rw [if_pos h5] at hc
          rw [show ((l[k].op : Int) == 5) = true from by simp [h5]]
          refine Br.t ?_
          by_cases hz : st = []
          · have hz0 : (s3.len : Int) = 0 := by rw [hs3, hz]; rfl
            rw [hz0]
            refine ⟨⟨0, 0, none⟩, fun h => by simp at h, 0, fun h => by simp at h, Br.t ⟨?_, hm3⟩⟩
            rw [hc, if_neg (by rw [hz]; simp)]
          · have hpos : 0 < st.length := List.length_pos_iff.2 hz
            have hne : ((s3.len : Int) == 0) = false := by simp; omega
            obtain ⟨q3, hq3, hcell⟩ := ho3.intsAll.get (i := st.length - 1) (by omega)
            rw [hne, w2 (by omega)]
            refine ⟨q3, fun _ => ⟨hq3, by omega, by omega⟩, st[st.length - 1], fun _ => ?_, ?_⟩
            · have : ((s3.len - 1 : Nat) : Int).toNat = st.length - 1 := by omega
              rw [this]; exact hcell
            · rw [Bool.false_or]
              have hlast : st.getLast? = some st[st.length - 1] := by rw [List.getLast?_eq_getElem?, List.getElem?_eq_getElem (by omega)]
              refine Br.ne (fun hn4 => ⟨?_, hm3⟩) (fun he4 => ?_)
              · rw [hc, if_neg (by rw [hlast]; simpa using hn4)]
              · rw [if_pos (by rw [hlast, he4])] at hc
                refine ⟨q3, ⟨hq3, by omega, by omega⟩, ?_⟩
                have : ((s3.len - 1 : Nat) : Int).toNat * 1 = st.length - 1 := by omega
                rw [this]
                refine ho3.set hq3 (by simp; omega) rfl (fun W7 ho7 hm7 sz7 => ?_)
                rw [w1]
                have e7 : (iv st).set (st.length - 1) (.int .i64 5) = iv (st.dropLast ++ [5]) := by
                  apply List.ext_getElem?
                  intro j
                  simp only [List.getElem?_set, List.length_map, List.getElem?_map, List.getElem?_append, List.length_dropLast, List.getElem?_dropLast]
                  by_cases hj : st.length - 1 = j
                  · subst hj; simp; omega
                  · rw [if_neg hj]
                    by_cases hj2 : j < st.length - 1
                    · rw [if_pos hj2, if_pos hj2]
                    · rw [if_neg hj2, List.getElem?_eq_none (by omega), List.getElem?_eq_none (by simp; omega)]
                rw [e7] at ho7
                exact ih (k + 1) _ s3 W7 (by omega) hlt hc (by simp; omega) ho7 (hm3.trans hm7 (fun i hi h => by have := hf i h; omega)) hf
        · rw [if_neg h5] at hc
          rw [show ((l[k].op : Int) == 5) = false from by simp [h5]]
          refine Br.f ?_
          by_cases h11 : l[k].op = 11
          · rw [if_pos h11] at hc
            rw [show ((l[k].op : Int) == 11) = true from by simp [h11]]
            refine Br.t (Br.eq (fun hz => ⟨?_, hm3⟩) (fun hnz => ?_))
            · have hz : st = [] := List.length_eq_zero_iff.1 (by omega)
              rw [if_pos hz] at hc
              rw [hc, h0.1, wrap_id (by omega) (by omega)]
              congr 2
              by_cases hkl : k + 1 = l.length
              · rw [hkl, List.drop_length]; simp; omega
              · have : l.drop (k + 1) ≠ [] := by rw [ne_eq, List.drop_eq_nil_iff]; omega
                rw [show ((k : Int) == (l.length : Int) - 1) = false from by simp; omega]
                symm
                simpa using (by omega : ¬ l.length ≤ k + 1)
            · have hne : st ≠ [] := fun h => hnz (by rw [hs3, h]; rfl)
              have hpos : 0 < st.length := List.length_pos_iff.2 hne
              rw [if_neg hne] at hc
              rw [w2 (by omega), w1, resl]
              have hcap : s3.len ≤ s3.cap := by
                rcases ho3.2 with h | ⟨g, cur, fr, ha, hh, hfr, hlc, _⟩
                · rw [h] at hs3; simp at hs3; omega
                · exact hlc
              refine ⟨⟨by omega, by omega⟩, ?_⟩
              have ho' := ho3.cut (n := s3.len - 1) (by omega)
              have et : (iv st).take ((s3.len - 1) * 1) = iv st.dropLast := by
                rw [List.dropLast_eq_take, hs3, Nat.mul_one, ← List.map_take]
              rw [et] at ho'
              have : (((s3.len - 1 : Nat) : Int)).toNat - 0 = s3.len - 1 := by omega
              rw [this, Nat.sub_zero]
              exact ih (k + 1) st.dropLast ⟨s3.a, s3.len - 1, s3.cap⟩ W3 (by omega) hlt hc (by simp; omega) ho' hm3 hf
          · rw [if_neg h11] at hc
            rw [show ((l[k].op : Int) == 11) = false from by simp [h11]]
            refine Br.f ?_
            rw [w1]
            exact ih (k + 1) st s3 W3 (by omega) hlt hc (by omega) ho3 hm3 hf
  exact key l.length 0 [] ⟨none, 0, 0⟩ W (by omega) (by omega) rfl (by simp) (Own.nil _ _ _) (Mod.refl _ _) (fun b hb => absurd hb (nil_notB b))
end Go.Proofs.YtacjnpahlbibhaaDoor

/- Contracts: instr.Of. -/
import Derived.Test.YtacjnpahlbibhaaDoorExA
set_option linter.unusedVariables false
set_option linter.unusedSimpArgs false
set_option maxRecDepth 100000
namespace Go.Proofs.YtacjnpahlbibhaaDoor
open Go Go.RowKit

/-- An answer of instr.Of. -/
def InfoV (x : Info) (sI sO : Sl) : Value := .agg #[.int .i64 x.form, .int .i64 x.limit, .bool x.plain, sI.v, sO.v]
def OfPost (W : World) (p : Info × Bool) : Ending → World → Prop := fun e W' =>
  ∃ sI sO : Sl, e = .returned (.tuple #[InfoV p.1 sI sO, .bool p.2]) ∧ Own W' ty_int 1 sI (iv p.1.ins) ∧ Own W' ty_int 1 sO (iv p.1.outs) ∧ Mod NoB W W' ∧ (∀ b, sI.isB b → W.heap.size ≤ b) ∧ (∀ b, sO.isB b → W.heap.size ≤ b)
theorem nil_notB (b : Nat) : ¬ (⟨none, 0, 0⟩ : Sl).isB b := by rintro ⟨q, h, _⟩; cases h
theorem sig_plain (s : ByteArray) : (!(s.toList == ({ data := #[] } : ByteArray).toList)) = !s.data.toList.isEmpty := by
  rw [ByteArray.toList_eq, ByteArray.toList_eq]
  cases s.data.toList <;> rfl
theorem Of_spec (W : World) (op : Int) : Calls Tryd.prog f_instr_Of #[.int .i64 op] W (OfPost W (instrOf op)) := by
  refine of_instr_Of _ _ _ ?_
  unfold V_instr_Of
  refine Na.mk fun b2 W1 hb2 hm1 hs1 hc1 => ?_
  refine CallV.mk ent_instr_scalars (scalars_spec W1) ?_
  rintro e W2 ⟨s12, rfl, h12, hm2⟩
  refine ⟨_, rfl, s12, rfl, ?_⟩
  intro J hJ
  have main : ∀ (rows : List Row) (s4 : Sl) (W3 : World), SlOf 5 RowR W3.cell? s4 rows → rows.length ≤ 1000 → (∀ x ∈ rows, (letters x.sig).length ≤ 1000) → Mod NoB W1 W3 → instrOf op = ofRows op rows → J s4 W3 := by
    intro rows s4 W3 h4 hn hsig hm3 hof
    refine hJ _ _ ?_
    intro L hL
    have hlt2 : b2 < W1.heap.size := heap_lt hc1
    have key : ∀ (n k : Nat) (W4 : World), n = rows.length - k → k ≤ rows.length → Mod NoB W3 W4 → ofRows op rows = ofRows op (rows.drop k) → L (k : Int) W4 := by
      intro n
      induction n with
      | zero =>
        intro k W4 hnk hk hm4 hd
        have hk : k = rows.length := by omega
        refine hL _ _ (Br.dec (fun hlt => ?_) (fun _ => ?_))
        · rw [h4.1] at hlt; omega
        · rw [hk, List.drop_length] at hd
          have hc2 := (hm3.trans0 hm4).heap hc1 (fun h => h)
          refine stC_at (b := b2) (o := 0) rfl hc2 (by simp) (by intro v hv; simp at hv; rcases hv with rfl | rfl | rfl | rfl <;> rfl) (fun W19 h19 m19 sz19 => ?_)
          refine ⟨0, cell_of_heap h19 rfl, 0, cell_of_heap h19 rfl, false, cell_of_heap h19 rfl, ⟨none, 0, 0⟩, cell_of_heap h19 rfl, ⟨none, 0, 0⟩, cell_of_heap h19 rfl, ?_⟩
          rw [hof, hd]
          refine ⟨⟨none, 0, 0⟩, ⟨none, 0, 0⟩, rfl, Own.nil _ _ _, Own.nil _ _ _, ?_, fun b hb => absurd hb (nil_notB b), fun b hb => absurd hb (nil_notB b)⟩
          exact ((hm1.trans0 (hm3.trans0 hm4)).trans m19 (fun i hi e => by omega))
      | succ n ih =>
        intro k W4 hnk hk hm4 hd
        have hlt : k < rows.length := by omega
        rw [List.drop_eq_getElem_cons hlt] at hd
        refine hL _ _ (Br.dec (fun _ => ?_) (fun hge => absurd (by rw [h4.1]; omega) hge))
        obtain ⟨q, hq, hc⟩ := h4.get hlt
        have hs := (Sub.self W3).mod0 hm4
        refine ⟨q, ⟨hq, by omega, by rw [h4.1]; omega⟩, _, hs _ _ hc.1, _, hs _ _ hc.2.1, _, hs _ _ hc.2.2.1, _, hs _ _ hc.2.2.2.1, _, hs _ _ hc.2.2.2.2, ?_⟩
        refine Na.mk fun b6 W5 hb6 hm5 hs5 hc5 => ?_
        refine stC_at (b := b6) (o := 0) rfl hc5 (by simp) (by intro v hv; simp at hv; rcases hv with rfl | rfl | rfl | rfl | rfl <;> rfl) (fun W6 h6 m6 sz6 => ?_)
        have hm6 : Mod NoB W4 W6 := hm5.trans m6 (fun i hi e => by omega)
        refine ⟨rows[k].lo, cell_of_heap h6 rfl, rows[k].hi, fun _ => cell_of_heap h6 rfl, ?_⟩
        by_cases hin : op < rows[k].lo ∨ op > rows[k].hi
        · have e1 : ((decide (op < rows[k].lo)) || (decide (op > rows[k].hi))) = true := by simpa using hin
          rw [e1]
          refine Br.t ?_
          rw [wrap_id (by omega) (by omega)]
          refine ih (k + 1) W6 (by omega) hlt (hm4.trans0 hm6) ?_
          rw [hd, ofRows, if_pos hin]
        · have e1 : ((decide (op < rows[k].lo)) || (decide (op > rows[k].hi))) = false := by
            rw [Bool.or_eq_false_iff]; exact ⟨decide_eq_false (fun h => hin (.inl h)), decide_eq_false (fun h => hin (.inr h))⟩
          rw [e1]
          refine Br.f ?_
          rw [ofRows, if_neg hin] at hd
          refine ⟨rows[k].form, cell_of_heap h6 rfl, rows[k].limit, cell_of_heap h6 rfl, rows[k].sig, cell_of_heap h6 rfl, ?_⟩
          rw [sig_plain]
          refine Na.mk fun b7 W7 hb7 hm7 hs7 hc7 => ?_
          refine stC_at (b := b7) (o := 0) rfl hc7 (by simp) (by intro v hv; simp at hv; rcases hv with rfl | rfl | rfl | rfl <;> rfl) (fun W8 h8 m8 sz8 => ?_)
          have hm8 : Mod NoB W6 W8 := hm7.trans m8 (fun i hi e => by omega)
          refine ⟨rows[k].sig, cell_of_heap (hm8.heap h6 (fun h => h)) rfl, ?_⟩
          refine conv_bytes (fun s42 W9 h42 hm9 f42 => ⟨s42, rfl, ?_⟩)
          have h9 := hm9.heap h8 (fun h => h)
          have hc2 : W9.heap[b2]? = _ := (((hm3.trans0 hm4).trans0 hm6).trans0 (hm8.trans0 hm9)).heap hc1 (fun h => h)
          have hlt7 : b7 < W9.heap.size := heap_lt h9
          have hlt6 : b6 < W6.heap.size := heap_lt h6
          have hne27 : b2 ≠ b7 := by
            have := hm3.size; have := hm4.size; have := hm6.size; omega
          -- the letters
          intro L1 hL1
          have hl : (letters rows[k].sig).length ≤ 1000 := hsig _ (List.getElem_mem hlt)
          have h42len := h42.1
          let S : Nat → Prop := fun i => i = b7 ∨ W9.heap.size ≤ i
          have inner : ∀ (m j : Nat) (st : Bool × List Int × List Int) (sI sO : Sl) (W10 : World), m = (letters rows[k].sig).length - j → j ≤ (letters rows[k].sig).length →
              st = ((letters rows[k].sig).take j).foldl sigStep (false, [], []) → st.2.1.length ≤ j → st.2.2.length ≤ j →
              Mod S W9 W10 → W10.heap[b7]? = some (.cells #[.int .i64 rows[k].form, .int .i64 rows[k].limit, .bool (!rows[k].sig.data.toList.isEmpty), sI.v, sO.v] 131 (0, 0)) →
              Own W10 ty_int 1 sI (iv st.2.1) → Own W10 ty_int 1 sO (iv st.2.2) → (∀ b, sI.isB b → W9.heap.size ≤ b) → (∀ b, sO.isB b → W9.heap.size ≤ b) → (∀ b, sI.isB b → ¬ sO.isB b) → L1 st.1 (j : Int) W10 := by
            intro m
            induction m with
            | zero =>
              intro j st sI sO W10 hmj hj hst l1 l2 hm10 h7 hI hO fI fO dis
              have hj : j = (letters rows[k].sig).length := by omega
              refine hL1 _ _ _ (Br.dec (fun hlt' => ?_) (fun _ => ?_))
              · rw [h42len] at hlt'; omega
              · rw [hj, List.take_length] at hst
                refine ⟨_, cell_of_heap h7 rfl, _, cell_of_heap h7 rfl, _, cell_of_heap h7 rfl, sI, cell_of_heap h7 rfl, sO, cell_of_heap h7 rfl, ?_⟩
                have hn2 : ¬ S b2 := by rintro (h | h); exact hne27 h; have := heap_lt hc2; omega
                have hc2' := hm10.heap hc2 hn2
                refine stC_at (b := b2) (o := 0) rfl hc2' (by simp) (by intro v hv; simp at hv; rcases hv with rfl | rfl | rfl | rfl | rfl <;> rfl) (fun W18 h18 m18 sz18 => ?_)
                refine ⟨_, cell_of_heap h18 rfl, _, cell_of_heap h18 rfl, _, cell_of_heap h18 rfl, sI, cell_of_heap h18 rfl, sO, cell_of_heap h18 rfl, ?_⟩
                rw [hof, hd]
                have e3 : (infoOf rows[k]).ins = st.2.1 := by rw [hst]; rfl
                have e4 : (infoOf rows[k]).outs = st.2.2 := by rw [hst]; rfl
                have g1 : W.heap.size ≤ W9.heap.size := Nat.le_trans hm1.size (Nat.le_trans hm3.size (Nat.le_trans hm4.size (Nat.le_trans hm6.size (Nat.le_trans hm8.size hm9.size))))
                have nI : ∀ b, sI.isB b → ¬ b = b2 := fun b hb e => by have := fI b hb; have := heap_lt hc2; omega
                have nO : ∀ b, sO.isB b → ¬ b = b2 := fun b hb e => by have := fO b hb; have := heap_lt hc2; omega
                refine ⟨sI, sO, rfl, ?_, ?_, ?_, fun b hb => Nat.le_trans g1 (fI b hb), fun b hb => Nat.le_trans g1 (fO b hb)⟩
                · show Own W18 ty_int 1 sI (iv (infoOf rows[k]).ins)
                  rw [e3]; exact hI.mod m18 nI
                · show Own W18 ty_int 1 sO (iv (infoOf rows[k]).outs)
                  rw [e4]; exact hO.mod m18 nO
                · have a1 : Mod NoB W W6 := (hm1.trans0 hm3).trans0 (hm4.trans0 hm6)
                  have a2 : Mod NoB W W9 := a1.trans0 (hm8.trans0 hm9)
                  have z6 : W.heap.size ≤ W6.heap.size := a1.size
                  refine (a2.trans hm10 (fun i hi hS => ?_)).trans m18 (fun i hi e => by omega)
                  rcases hS with h | h <;> omega
            | succ m ihm =>
              intro j st sI sO W10 hmj hj hst l1 l2 hm10 h7 hI hO fI fO dis
              have hlj : j < (letters rows[k].sig).length := by omega
              refine hL1 _ _ _ (Br.dec (fun _ => ?_) (fun hge => absurd (by rw [h42len]; omega) hge))
              obtain ⟨qc, hqc, hcc⟩ := h42.get hlj
              have hqn : ¬ S (qc.add (j * 1)).block := by
                have l9 := lt_of_cell hcc
                rw [add_block] at l9 ⊢
                have := f42 _ ⟨qc, hqc, rfl⟩
                have := heap_lt h8
                rintro (h | h) <;> omega
              refine ⟨qc, ⟨hqc, by omega, by rw [h42len]; omega⟩, _, hm10.cell hcc hqn, ?_⟩
              have htake : ((letters rows[k].sig).take (j + 1)).foldl sigStep (false, [], []) = sigStep st (letters rows[k].sig)[j] := by
                rw [List.take_succ_eq_append_getElem hlj, List.foldl_append, ← hst]; rfl
              have hn7I : ¬ sI.isB b7 := fun h => by have := fI _ h; omega
              have hn7O : ¬ sO.isB b7 := fun h => by have := fO _ h; omega
              intro J1 hJ1
              have hw : IntKind.wrap .i64 ((j : Int) + 1) = ((j + 1 : Nat) : Int) := by rw [wrap_id (by omega) (by omega)]; omega
              have step : (letters rows[k].sig)[j] ≠ 58 → J1 st.1 (sigType (letters rows[k].sig)[j]) W10 := by
                intro h58
                refine hJ1 _ _ _ (Br.mk (fun ht => ?_) (fun hf => ?_))
                · refine ⟨sO, cell_of_heap h7 rfl, ?_⟩
                  refine Na.mk fun b11 W12 hb12 hm12 hs12 hc12 => ?_
                  refine app_ints (hO.mod0 hm12) (Ints.src (one_int hc12) (Sub.self _)) (by rw [List.length_singleton]; unfold big; omega) (fun s60 W13 ho13 hm13 hb13 => ⟨s60, rfl, ?_⟩)
                  have h13 := hm13.heap (hm12.heap h7 (fun h => h)) hn7O
                  refine stC_at (b := b7) (o := 4) rfl h13 (by simp) (by intro v hv; simp at hv; subst hv; rfl) (fun W14 h14 m14 sz14 => ?_)
                  rw [hw]
                  have f60 : ∀ b, s60.isB b → W9.heap.size ≤ b := fun b hb => (hb13 b hb).elim (fO b) (fun h => by have := hm10.size; have := hm12.size; omega)
                  have hI12 := hI.mod0 hm12
                  refine ihm (j + 1) (st.1, st.2.1, st.2.2 ++ [sigType (letters rows[k].sig)[j]]) sI s60 W14 (by omega) (by omega) ?_ (by simp; omega) (by simp; omega) ?_ h14 ?_ ?_ fI f60 ?_
                  · rw [htake, sigStep, if_neg h58, if_pos ht]
                  · exact ((hm10.trans0 hm12).trans hm13 (fun i hi hs => .inr (fO i hs))).trans m14 (fun i hi e => .inl e)
                  · exact (hI12.mod hm13 dis).mod m14 (fun b hb e => hn7I (e ▸ hb))
                  · exact ho13.mod m14 (fun b hb e => by have := f60 b hb; have := heap_lt h9; omega)
                  · intro b hb hb'
                    rcases hb13 b hb' with h | h
                    · exact dis b hb h
                    · have := hI.lt hb; have := hm12.size; omega
                · refine ⟨sI, cell_of_heap h7 rfl, ?_⟩
                  refine Na.mk fun b11 W12 hb12 hm12 hs12 hc12 => ?_
                  refine app_ints (hI.mod0 hm12) (Ints.src (one_int hc12) (Sub.self _)) (by rw [List.length_singleton]; unfold big; omega) (fun s60 W13 ho13 hm13 hb13 => ⟨s60, rfl, ?_⟩)
                  have h13 := hm13.heap (hm12.heap h7 (fun h => h)) hn7I
                  refine stC_at (b := b7) (o := 3) rfl h13 (by simp) (by intro v hv; simp at hv; subst hv; rfl) (fun W14 h14 m14 sz14 => ?_)
                  rw [hw]
                  have f60 : ∀ b, s60.isB b → W9.heap.size ≤ b := fun b hb => (hb13 b hb).elim (fI b) (fun h => by have := hm10.size; have := hm12.size; omega)
                  have hO12 := hO.mod0 hm12
                  refine ihm (j + 1) (st.1, st.2.1 ++ [sigType (letters rows[k].sig)[j]], st.2.2) s60 sO W14 (by omega) (by omega) ?_ (by simp; omega) (by simp; omega) ?_ h14 ?_ ?_ f60 fO ?_
                  · rw [htake, sigStep, if_neg h58, if_neg (by rw [hf]; exact Bool.false_ne_true)]
                  · exact ((hm10.trans0 hm12).trans hm13 (fun i hi hs => .inr (fI i hs))).trans m14 (fun i hi e => .inl e)
                  · exact ho13.mod m14 (fun b hb e => by have := f60 b hb; have := heap_lt h9; omega)
                  · exact (hO12.mod hm13 (fun b hb hb' => dis b hb' hb)).mod m14 (fun b hb e => hn7O (e ▸ hb))
                  · intro b hb hb'
                    rcases hb13 b hb with h | h
                    · exact dis b h hb'
                    · have := hO.lt hb'; have := hm12.size; omega
              refine Br.eq (fun h58 => ?_) (fun h58 => ?_)
              · rw [hw]
                refine ihm (j + 1) (true, st.2) sI sO W10 (by omega) (by omega) ?_ (by show st.2.1.length ≤ _; omega) (by show st.2.2.length ≤ _; omega) hm10 h7 hI hO fI fO dis
                rw [htake, sigStep, if_pos h58]
              · have := step h58
                unfold sigType at this
                refine Br.eq (fun h => ?_) (fun h => Br.eq (fun h' => ?_) (fun h' => ?_))
                · rwa [if_pos h] at this
                · rwa [if_neg h, if_pos h'] at this
                · rwa [if_neg h, if_neg h'] at this
          exact inner _ 0 (false, [], []) ⟨none, 0, 0⟩ ⟨none, 0, 0⟩ W9 rfl (Nat.zero_le _) rfl (Nat.le_refl _) (Nat.le_refl _) (Mod.refl _ _) h9 (Own.nil _ _ _) (Own.nil _ _ _) (fun b hb => absurd hb (nil_notB b)) (fun b hb => absurd hb (nil_notB b)) (fun b hb => absurd hb (nil_notB b))
    exact key rows.length 0 W3 (by omega) (by omega) (Mod.refl _ _) (by simp)
  refine Br.dec (fun hge => ?_) (fun hlt => ?_)
  · refine CallV.mk ent_instr_vectors (vectors_spec W2) ?_
    rintro e W20 ⟨s15, rfl, h15, hm15⟩
    exact ⟨_, rfl, s15, rfl, main vectorsT s15 W20 h15 (by decide) (by decide) (hm2.trans0 hm15) (by unfold instrOf; rw [if_pos hge])⟩
  · exact main scalarsT s12 W2 h12 (by decide) (by decide) hm2 (by unfold instrOf; rw [if_neg hlt])
end Go.Proofs.YtacjnpahlbibhaaDoor

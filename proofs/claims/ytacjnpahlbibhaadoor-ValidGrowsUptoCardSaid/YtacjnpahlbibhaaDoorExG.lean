/- Contracts: expr.put. -/
import Derived.Test.YtacjnpahlbibhaaDoorExF
set_option linter.unusedVariables false
set_option linter.unusedSimpArgs false
set_option maxRecDepth 100000
namespace Go.Proofs.YtacjnpahlbibhaaDoor
open Go Go.RowKit

theorem put_walk (W : World) (x : Instr) (s : Sl) {r0 : Rd} (hr0 : Sub r0 W) (hl : Ints r0 s x.l) (hw : instrW x ≤ big) (ha : -9223372036854775808 ≤ x.a ∧ x.a < 9223372036854775808)
    (R : Ending → World → Prop) (hR0 : (instrOf x.op).2 = false ∨ restOk x (instrOf x.op).1.form = false → ∀ W', Mod NoB W W' → R (.returned (.tuple #[.slice none 0 0, .bool false])) W')
    (hR : (instrOf x.op).2 = true → restOk x (instrOf x.op).1.form = true → ∀ e W', PutPost W x (argE x (instrOf x.op).1.form) e W' → R e W') :
    V_expr_put x.op x.a x.b x.lo x.hi s W R := by
  unfold instrW big at hw
  unfold V_expr_put
  refine Na.mk fun b1 W1 hb1 hm1 hs1 hc1 => ?_
  refine ⟨x.op, cell_of_heap hc1 rfl, ?_⟩
  refine CallV.mk ent_instr_Of (Of_spec W1 x.op) ?_
  rintro e W2 ⟨sI, sO, rfl, hI, hO, hm2, _, _⟩
  refine ⟨_, rfl, _, _, _, sI, sO, (instrOf x.op).2, rfl, ?_⟩
  refine Na.mk fun b4 W3 hb4 hm3 hs3 hc3 => ?_
  refine stC_at (b := b4) (o := 0) rfl hc3 (by simp) (by simp [Value.oneCell', Sl.v]) (fun W4 h4 m4 sz4 => ?_)
  rw [setL_all (by simp)] at h4
  have hlt3 := heap_lt hc3
  have hm34 : Mod NoB W2 W4 := hm3.trans m4 (fun i hi e => by omega)
  have h1 := (hm2.trans0 hm34).heap hc1 (fun h => h)
  have hm14 : Mod NoB W W4 := (hm1.trans0 hm2).trans0 hm34
  intro J hJ J5 hJ5
  refine ⟨_, fun _ => cell_of_heap h1 rfl, _, fun _ => cell_of_heap h1 rfl, _, fun _ => cell_of_heap h1 rfl, _, fun _ => cell_of_heap h1 rfl, _, fun _ => cell_of_heap h1 rfl, s, fun _ => cell_of_heap h1 rfl, _, fun _ => cell_of_heap h4 rfl, fun hok => ?_, fun hok => ?_⟩
  rotate_left
  · have hok : (instrOf x.op).2 = false := by simpa using hok
    exact hJ5 _ _ (Br.t (hR0 (.inl hok) W4 hm14))
  have hok : (instrOf x.op).2 = true := by simpa using hok
  obtain ⟨hf, hop⟩ := instrOf_form hok
  replace hR := hR hok
  refine CallV.mk ent_expr_rest (rest_spec W4 x s (by rw [hl.1]) _ hf) ?_
  rintro e W5 ⟨rfl, hm5⟩
  refine ⟨_, rfl, restOk x (instrOf x.op).1.form, rfl, hJ5 _ _ (Br.mk (fun hb => ?_) (fun hb => ?_))⟩
  · exact hR0 (.inr (by simpa using hb)) W5 (hm14.trans0 hm5)
  have hrest : restOk x (instrOf x.op).1.form = true := by simpa using hb
  replace hR := hR hrest
  clear hR0 hJ5 hb J5
  have hm15 := hm14.trans0 hm5
  replace h1 := hm5.heap h1 (fun h => h)
  replace h4 := hm5.heap h4 (fun h => h)
  refine hJ _ ?_
  clear hJ
  generalize hform : (instrOf x.op).1.form = f at *
  refine ⟨x.op, cell_of_heap h1 rfl, ?_⟩
  refine Na.mk fun b6 W6 hb6 hm6 hs6 hc6 => ?_
  intro J1 hJ1
  have h16 := hm6.heap h1 (fun h => h)
  have h46 := hm6.heap h4 (fun h => h)
  have tail : ∀ (s6 : Sl) (W7 : World), Fw W W7 s6 (opB x.op) → Mod NoB W5 W7 → (∀ b, s6.isB b → W5.heap.size ≤ b) → J1 s6 W7 := by
    intro s6 W7 hfw hm7 hs6
    have h17 := hm7.heap h1 (fun h => h)
    have h47 := hm7.heap h4 (fun h => h)
    have hlt1 := heap_lt h1
    have hlt4 := heap_lt h4
    refine hJ1 _ _ ⟨x.a, cell_of_heap h17 rfl, ?_⟩
    refine Na.mk fun b8 W8 hb8 hm8 hs8 hc8 => ?_
    have fr8 : Fr W W8.cell? W8 ⟨none, 0, 0⟩ [] := ⟨⟨Own.nil _ _ _, hfw.mod.trans0 hm8, fun b hb => absurd hb (nil_notB b)⟩, ⟨Sub.self _, fun p v _ h => nil_notB _ h⟩⟩
    refine fr8.putU hc8 (fun s44 W9 ho44 _ hm9 f44 => ?_)
    have hm79 : Mod NoB W7 W9 := hm8.trans0 hm9
    have hm59 : Mod NoB W5 W9 := hm7.trans0 hm79
    have h19 := hm79.heap h17 (fun h => h)
    have h49 := hm79.heap h47 (fun h => h)
    have hfw9 := hfw.mod0 hm79
    have n1 : ¬ s6.isB b1 := fun h => by have := hs6 _ h; omega
    have n4 : ¬ s6.isB b4 := fun h => by have := hs6 _ h; omega
    -- what is read from here on
    obtain ⟨r, hr⟩ : ∃ r, r = offS W9 s6.isB := ⟨_, rfl⟩
    have fr9 : Fr W r W9 s6 (opB x.op) := ⟨hfw9, hr ▸ Rds.all _ _⟩
    have c1 : ∀ (i : Nat) (v : Value), (instrC x s)[i]? = some v → r ((⟨b1, 0, none⟩ : Addr).add i) = some v := by
      intro i v hv
      rw [hr, add_mk]
      exact offS_of (cell_of_heap h19 (by rw [Nat.zero_add]; exact hv)) n1
    have ca := c1 1 (.int .i64 x.a) rfl
    have cb := c1 2 (.int .i64 x.b) rfl
    have clo := c1 3 (.int .u64 x.lo) rfl
    have cl := c1 5 s.v rfl
    have b44 : Bytes r s44 (numE x.a).b := ho44.ints (fun q hq i v hc => by
      rw [hr]
      refine offS_of hc (fun h => ?_)
      rw [add_block] at h
      have := f44 _ ⟨q, hq, rfl⟩
      have := hfw.own.lt h
      have := hm8.size
      omega)
    have hlr : Ints r s x.l := Ints.mono hl (fun p v hp => by
      have hp' := hr0 p v hp
      rw [hr]
      refine offS_of ((hm15.trans0 hm59).cell hp' (fun h => h)) (fun h => ?_)
      have := hs6 _ h
      have := lt_of_cell hp'
      have := hm15.size
      omega)
    have hopl := opB_len hop
    have hal := numE_len x.a
    have hbl := numE_len x.b
    clear c1 hr ho44 f44 h17 h47 hJ1 fr8
    refine ⟨f, cell_of_heap h49 rfl, ?_⟩
    have hcase : f = 1 ∨ f = 2 ∨ (f = 3 ∨ f = 5) ∨ f = 4 ∨ (f = 6 ∨ f = 7) ∨ f = 8 ∨ (f ≠ 1 ∧ f ≠ 2 ∧ f ≠ 3 ∧ f ≠ 4 ∧ f ≠ 5 ∧ f ≠ 6 ∧ f ≠ 7 ∧ f ≠ 8) := by omega
    rcases hcase with rfl | rfl | hf35 | rfl | hf67 | rfl | hf9
    · -- nothing
      simp only [Int.reduceBEq, Br_true, Br_false]
      have fr9' : Fr W r W9 s6 (opB x.op ++ []) := by rw [List.append_nil]; exact fr9
      exact hR _ _ (fr9'.post rfl rfl)
    · -- a block's type
      simp only [Int.reduceBEq, Br_true, Br_false]
      refine ⟨x.a, fr9.sub ca, ?_⟩
      by_cases e0 : x.a = -64
      · rw [show ((x.a : Int) == (-64)) = true from by simp [e0]]; simp only [Br_true]
        refine ⟨x.a, fr9.sub ca, ?_⟩
        refine Na.mk fun b10 W10 hb10 hm10 hs10 hc10 => ?_
        rw [wrap_u8, wrap_id (by omega) (by omega)] at hc10
        refine (fr9.mod0 hm10).app ((one_byte hc10).src (Sub.self _)) (by rw [List.length_singleton]; unfold big; omega) (fun s' W11 fr11 => ⟨s', rfl, hR _ _ (fr11.post ?_ ?_)⟩)
        · unfold argE; rw [if_neg (by omega), if_pos rfl, if_pos (by omega)]
        · unfold argE; rw [if_neg (by omega), if_pos rfl, if_pos (by omega)]
      rw [show ((x.a : Int) == (-64)) = false from by simp [e0], Br_false]
      refine ⟨x.a, fr9.sub ca, ?_⟩
      by_cases e1 : x.a = -1
      · rw [show ((x.a : Int) == (-1)) = true from by simp [e1]]; simp only [Br_true]
        refine ⟨x.a, fr9.sub ca, ?_⟩
        refine Na.mk fun b10 W10 hb10 hm10 hs10 hc10 => ?_
        rw [wrap_u8, wrap_id (by omega) (by omega)] at hc10
        refine (fr9.mod0 hm10).app ((one_byte hc10).src (Sub.self _)) (by rw [List.length_singleton]; unfold big; omega) (fun s' W11 fr11 => ⟨s', rfl, hR _ _ (fr11.post ?_ ?_)⟩)
        · unfold argE; rw [if_neg (by omega), if_pos rfl, if_pos (by omega)]
        · unfold argE; rw [if_neg (by omega), if_pos rfl, if_pos (by omega)]
      rw [show ((x.a : Int) == (-1)) = false from by simp [e1], Br_false]
      refine ⟨x.a, fr9.sub ca, ?_⟩
      by_cases e2 : x.a = -2
      · rw [show ((x.a : Int) == (-2)) = true from by simp [e2]]; simp only [Br_true]
        refine ⟨x.a, fr9.sub ca, ?_⟩
        refine Na.mk fun b10 W10 hb10 hm10 hs10 hc10 => ?_
        rw [wrap_u8, wrap_id (by omega) (by omega)] at hc10
        refine (fr9.mod0 hm10).app ((one_byte hc10).src (Sub.self _)) (by rw [List.length_singleton]; unfold big; omega) (fun s' W11 fr11 => ⟨s', rfl, hR _ _ (fr11.post ?_ ?_)⟩)
        · unfold argE; rw [if_neg (by omega), if_pos rfl, if_pos (by omega)]
        · unfold argE; rw [if_neg (by omega), if_pos rfl, if_pos (by omega)]
      rw [show ((x.a : Int) == (-2)) = false from by simp [e2], Br_false]
      refine ⟨x.a, fr9.sub ca, ?_⟩
      by_cases e3 : x.a = -5
      · rw [show ((x.a : Int) == (-5)) = true from by simp [e3]]; simp only [Br_true]
        refine ⟨x.a, fr9.sub ca, ?_⟩
        refine Na.mk fun b10 W10 hb10 hm10 hs10 hc10 => ?_
        rw [wrap_u8, wrap_id (by omega) (by omega)] at hc10
        refine (fr9.mod0 hm10).app ((one_byte hc10).src (Sub.self _)) (by rw [List.length_singleton]; unfold big; omega) (fun s' W11 fr11 => ⟨s', rfl, hR _ _ (fr11.post ?_ ?_)⟩)
        · unfold argE; rw [if_neg (by omega), if_pos rfl, if_pos (by omega)]
        · unfold argE; rw [if_neg (by omega), if_pos rfl, if_pos (by omega)]
      rw [show ((x.a : Int) == (-5)) = false from by simp [e3], Br_false]
      refine Dw.mk fun W12 hm12 _ => ?_
      refine ⟨Sub r, (fr9.mod0 hm12).rds.sub, x.a, fun w hw => hw _ _ ca, x.a, fun w hw => hw _ _ ca, ?_⟩
      refine Na.mk fun b13 W13 hb13 hm13 hs13 hc13 => ?_
      have fr13 := (fr9.mod0 hm12).mod0 hm13
      refine ⟨fr13.rds.sub, ?_⟩
      have hrl : (lebS x.a).length ≤ 10 := lebS_len10 ha.1 ha.2
      refine CallV.mk ent_leb_PutS (PutS_spec (s := ⟨some ⟨b13, 0, none⟩, 1, 1⟩) (Sub.self W13) (one_int hc13) (by intro y hy; simp at hy; subst hy; exact ha) (by simp)) ?_
      rintro e W14 ⟨t, rfl, ho14, hm14', hb14⟩
      have fr14 := fr13.mod0 hm14'
      refine ⟨_, rfl, t, rfl, fr14.rds.sub, ?_⟩
      have ho14 : Own W14 ty_uint8 1 t (bv (lebS x.a)) := by simpa using ho14
      refine fr14.app ho14.srcB (by unfold big; omega) (fun s' W15 fr15 => ⟨s', rfl, fr15.rds.sub, ?_⟩)
      refine number_call ⟨fr15.rds.sub, hR _ _ (fr15.post ?_ ?_)⟩
      · unfold argE; rw [if_neg (by omega), if_pos rfl, if_neg (by omega)]
      · unfold argE; rw [if_neg (by omega), if_pos rfl, if_neg (by omega)]
    · -- a label, an index
      have hA : argE x f = numE x.a := by unfold argE; rw [if_neg (by omega), if_neg (by omega), if_pos hf35]
      rw [hA] at hR
      have step : ∀ J2 : Bool → World → Prop, J2 true W9 → Br ((f : Int) == 3) (J2 ((f : Int) == 3) W9) (J2 ((f : Int) == 5) W9) := by
        intro J2 h
        rcases hf35 with rfl | rfl <;> simpa only [Int.reduceBEq, Br_true, Br_false] using h
      rw [show ((f : Int) == 1) = false from by simp; omega, Br_false, show ((f : Int) == 2) = false from by simp; omega, Br_false]
      intro J2 hJ2
      refine step J2 (hJ2 _ _ (Br.t ?_))
      refine Dw.mk fun W12 hm12 _ => ?_
      have fr12 := fr9.mod0 hm12
      refine ⟨Sub r, fr12.rds.sub, x.a, fun w hw => hw _ _ ca, ?_⟩
      refine fr12.app (b44.src fr12.rds.sub) (by unfold big; omega) (fun s' W13 fr13 => ⟨s', rfl, fr13.rds.sub, ?_⟩)
      exact number_call (hR _ _ (fr13.post rfl rfl))
    · -- a table
      have hA : argE x 4 = (E.app ⟨lebU x.l.length, true⟩ (numsE x.l)).app (numE x.a) := by unfold argE; simp
      rw [hA] at hR
      simp only [Int.reduceBEq, Br_true, Br_false]
      intro J2 hJ2
      refine hJ2 _ _ ?_
      simp only [Br_false]
      refine ⟨s, fr9.sub cl, ?_⟩
      refine Na.mk fun b12 W12 hb12 hm12 hs12 hc12 => ?_
      have hlen : (s.len : Int) = (x.l.length : Nat) := by rw [hlr.1]
      rw [hlen] at hc12
      have eL : (numE (x.l.length : Nat)).b = lebU x.l.length := by
        show lebU (((x.l.length : Nat) : Int) % 18446744073709551616).toNat = _
        congr 1; omega
      refine (fr9.mod0 hm12).putU hc12 (fun s98 W13 ho98 fr13 hm13 f98 => ?_)
      have hll := numE_len (x.l.length : Nat)
      refine fr13.app ho98.srcB (by unfold big; omega) (fun s' W14 fr14 => ⟨s', rfl, ?_⟩)
      rw [eL] at fr14 hll
      refine ⟨s, fr14.sub cl, ?_⟩
      rw [hok]
      intro L hL
      have key : ∀ (n k : Nat) (s5 : Sl) (W15 : World), n = x.l.length - k → k ≤ x.l.length → Fr W r W15 s5 (opB x.op ++ (lebU x.l.length ++ (E.cat ((x.l.take k).map numE)).b)) → L (E.cat ((x.l.take k).map numE)).ok s5 (k : Int) W15 := by
        intro n
        induction n with
        | zero =>
          intro k s5 W15 hnk hk fr15
          have hk : k = x.l.length := by omega
          have hnl := numsE_take_len x.l (Nat.le_refl _)
          rw [hk, List.take_length] at fr15
          rw [List.take_length] at hnl
          rw [hk, List.take_length]
          refine hL _ _ _ _ (Br.dec (fun h => by omega) (fun _ => ?_))
          refine fr15.app (b44.src fr15.rds.sub) (by rw [List.length_append, List.length_append]; unfold big; omega) (fun s' W16 fr16 => ⟨s', rfl, ?_⟩)
          rw [List.append_assoc] at fr16
          refine ⟨x.a, fun _ => fr16.sub ca, fun hb => number_call (hR _ _ (fr16.post rfl ?_)), fun hb => hR _ _ (fr16.post rfl ?_)⟩
          · show isNum x.a = ((true && (numsE x.l).ok) && (numE x.a).ok)
            unfold numsE; rw [hb]; rfl
          · show false = ((true && (numsE x.l).ok) && (numE x.a).ok)
            unfold numsE; rw [hb]; rfl
        | succ n ih =>
          intro k s5 W15 hnk hk fr15
          have hlt : k < x.l.length := by omega
          refine hL _ _ _ _ (Br.dec (fun _ => ?_) (fun hge => absurd (by omega) hge))
          obtain ⟨qa, hqa, hc⟩ := hlr.get hlt
          refine ⟨qa, ⟨hqa, by omega, by omega⟩, x.l[k], fr15.sub hc, ?_⟩
          have hnl := numsE_take_len x.l hk
          refine Na.mk fun b16 W16 hb16 hm16 hs16 hc16 => ?_
          refine (fr15.mod0 hm16).putU hc16 (fun s111 W17 ho111 fr17 hm17 f111 => ?_)
          have hnk := numE_len x.l[k]
          refine fr17.app ho111.srcB (by rw [List.length_append, List.length_append]; unfold big; omega) (fun s' W18 fr18 => ⟨s', rfl, ?_⟩)
          rw [wrap_id (by omega) (by omega)]
          have eb : opB x.op ++ (lebU x.l.length ++ (E.cat ((x.l.take k).map numE)).b) ++ (numE x.l[k]).b = opB x.op ++ (lebU x.l.length ++ (E.cat ((x.l.take (k + 1)).map numE)).b) := by
            rw [E.cat_take_succ numE hlt, E.app_b, List.append_assoc, List.append_assoc]
          rw [eb] at fr18
          have eo : (E.cat ((x.l.take (k + 1)).map numE)).ok = ((E.cat ((x.l.take k).map numE)).ok && isNum x.l[k]) := by rw [E.cat_take_succ numE hlt, E.app_ok]; rfl
          have := ih (k + 1) s' W18 (by omega) hlt fr18
          rw [eo] at this
          refine ⟨fun hb => number_call ?_, fun hb => ?_⟩
          · rw [hb, Bool.true_and] at this; exact this
          · rw [hb] at this; exact this
      exact key x.l.length 0 s' W14 (by omega) (by omega) (by simpa [E.cat, E.nil] using fr14)
    · -- two numbers
      have hA : argE x f = (numE x.a).app (numE x.b) := by unfold argE; rw [if_neg (by omega), if_neg (by omega), if_neg (by omega), if_neg (by omega), if_pos hf67]
      rw [hA] at hR
      have step : ∀ J3 : Bool → World → Prop, J3 true W9 → Br ((f : Int) == 6) (J3 ((f : Int) == 6) W9) (J3 ((f : Int) == 7) W9) := by
        intro J3 h
        rcases hf67 with rfl | rfl <;> simpa only [Int.reduceBEq, Br_true, Br_false] using h
      rw [show ((f : Int) == 1) = false from by simp; omega, Br_false, show ((f : Int) == 2) = false from by simp; omega, Br_false]
      intro J2 hJ2
      rw [show ((f : Int) == 3) = false from by simp; omega, Br_false, show ((f : Int) == 5) = false from by simp; omega]
      refine hJ2 _ _ (Br.f ?_)
      rw [show ((f : Int) == 4) = false from by simp; omega, Br_false]
      intro J3 hJ3
      refine step J3 (hJ3 _ _ (Br.t ?_))
      refine Dw.mk fun W12 hm12 _ => ?_
      have fr12 := fr9.mod0 hm12
      have e1 : isNum x.a = true → isNum x.b = ((numE x.a).app (numE x.b)).ok := fun h => by show isNum x.b = (isNum x.a && isNum x.b); rw [h]; rfl
      have e2 : isNum x.a = !true → false = ((numE x.a).app (numE x.b)).ok := fun h => by show false = (isNum x.a && isNum x.b); rw [h]; rfl
      refine ⟨Sub r, fr12.rds.sub, x.b, fun w hw => hw _ _ cb, x.a, fun w hw => hw _ _ ca, ?_, ?_⟩
      · refine fr12.app (b44.src fr12.rds.sub) (by unfold big; omega) (fun s13 W13 fr13 => ⟨s13, rfl, fr13.rds.sub, ?_⟩)
        refine Na.mk fun b14 W14 hb14 hm14 hs14 hc14 => ?_
        have fr14 := fr13.mod0 hm14
        refine ⟨fr14.rds.sub, fr14.putU hc14 (fun t W15 ho15 fr15 hm15 f15 => ⟨fr15.rds.sub, ?_⟩)⟩
        refine fr15.app ho15.srcB (by rw [List.length_append]; unfold big; omega) (fun s16 W16 fr16 => ⟨s16, rfl, fr16.rds.sub, ?_⟩)
        rw [List.append_assoc] at fr16
        exact number_call ⟨fr16.rds.sub, x.b, fun _ w hw => hw _ _ cb, fun hb => number_call ⟨fr16.rds.sub, hR _ _ (fr16.post rfl (e1 hb))⟩, fun hb => ⟨fr16.rds.sub, hR _ _ (fr16.post rfl (e2 hb))⟩⟩
      · refine Na.mk fun b14 W13 hb14 hm14 hs14 hc14 => ?_
        have fr13 := fr12.mod0 hm14
        refine ⟨fr13.rds.sub, ?_⟩
        have hn13 : ¬ s6.isB b14 := fun h => by have := fr12.fw.own.lt h; omega
        refine fr13.fw.app (b44.src fr13.rds.sub) (by unfold big; omega) (fun s14 W14 fw14 m14 g14 => ⟨s14, rfl, ?_⟩)
        have fr14 : Fr W r W14 s14 (opB x.op ++ (numE x.a).b) := ⟨fw14, fr13.rds.step m14 g14⟩
        refine ⟨fr14.rds.sub, fr14.putU (m14.heap hc14 hn13) (fun t W15 ho15 fr15 hm15 f15 => ⟨fr15.rds.sub, ?_⟩)⟩
        refine fr15.app ho15.srcB (by rw [List.length_append]; unfold big; omega) (fun s16 W16 fr16 => ⟨s16, rfl, fr16.rds.sub, ?_⟩)
        rw [List.append_assoc] at fr16
        exact number_call ⟨fr16.rds.sub, x.b, fun _ w hw => hw _ _ cb, fun hb => number_call ⟨fr16.rds.sub, hR _ _ (fr16.post rfl (e1 hb))⟩, fun hb => ⟨fr16.rds.sub, hR _ _ (fr16.post rfl (e2 hb))⟩⟩
    · -- two numbers and a lane
      have hA : argE x 8 = ((numE x.a).app (numE x.b)).app ⟨[x.lo % 256], decide (x.lo < 256)⟩ := by unfold argE; simp
      rw [hA] at hR
      simp only [Int.reduceBEq, Br_true, Br_false]
      intro J2 hJ2
      refine hJ2 _ _ ?_
      simp only [Br_false]
      intro J3 hJ3
      refine hJ3 _ _ ?_
      simp only [Br_false]
      intro J4 hJ4
      have last : ∀ (s16 : Sl) (W16 : World), Fr W r W16 s16 (opB x.op ++ ((numE x.a).b ++ (numE x.b).b)) → J4 s16 W16 := by
        intro s16 W16 fr16
        refine hJ4 _ _ ?_
        refine Dw.mk fun W17 hm17 _ => ?_
        have fr17 := fr16.mod0 hm17
        refine ⟨Sub r, fr17.rds.sub, x.lo, fun w hw => hw _ _ clo, x.a, fun w hw => hw _ _ ca, ?_⟩
        refine Na.mk fun b18 W18 hb18 hm18 hs18 hc18 => ?_
        rw [wrap_u8] at hc18
        have fr18 := fr17.mod0 hm18
        refine ⟨fr18.rds.sub, fr18.app ((one_byte hc18).src (Sub.self _)) (by rw [List.length_append, List.length_append, List.length_singleton]; unfold big; omega) (fun s19 W19 fr19 => ⟨s19, rfl, fr19.rds.sub, ?_⟩)⟩
        rw [List.append_assoc] at fr19
        refine number_call ⟨fr19.rds.sub, x.b, fun _ w hw => hw _ _ cb, fun hb => number_call ⟨fr19.rds.sub, x.lo, fun _ w hw => hw _ _ clo, hR _ _ (fr19.post rfl ?_)⟩, fun hb => ⟨fr19.rds.sub, x.lo, nofun, hR _ _ (fr19.post rfl ?_)⟩⟩
        · show (isNum x.b && decide (x.lo < 256)) = ((isNum x.a && isNum x.b) && decide (x.lo < 256)); rw [hb]; rfl
        · show (false && decide (x.lo < 256)) = ((isNum x.a && isNum x.b) && decide (x.lo < 256)); rw [hb]; rfl
      refine Dw.mk fun W12 hm12 _ => ?_
      have fr12 := fr9.mod0 hm12
      refine ⟨Sub r, fr12.rds.sub, x.b, fun w hw => hw _ _ cb, ?_, ?_⟩
      · refine fr12.app (b44.src fr12.rds.sub) (by unfold big; omega) (fun s13 W13 fr13 => ⟨s13, rfl, fr13.rds.sub, ?_⟩)
        refine Na.mk fun b14 W14 hb14 hm14 hs14 hc14 => ?_
        have fr14 := fr13.mod0 hm14
        refine ⟨fr14.rds.sub, fr14.putU hc14 (fun t W15 ho15 fr15 hm15 f15 => ⟨fr15.rds.sub, ?_⟩)⟩
        refine fr15.app ho15.srcB (by rw [List.length_append]; unfold big; omega) (fun s16 W16 fr16 => ⟨s16, rfl, fr16.rds.sub, ?_⟩)
        rw [List.append_assoc] at fr16
        exact last _ _ fr16
      · refine Na.mk fun b14 W13 hb14 hm14 hs14 hc14 => ?_
        have fr13 := fr12.mod0 hm14
        refine ⟨fr13.rds.sub, ?_⟩
        have hn13 : ¬ s6.isB b14 := fun h => by have := fr12.fw.own.lt h; omega
        refine fr13.fw.app (b44.src fr13.rds.sub) (by unfold big; omega) (fun s14 W14 fw14 m14 g14 => ⟨s14, rfl, ?_⟩)
        have fr14 : Fr W r W14 s14 (opB x.op ++ (numE x.a).b) := ⟨fw14, fr13.rds.step m14 g14⟩
        refine ⟨fr14.rds.sub, fr14.putU (m14.heap hc14 hn13) (fun t W15 ho15 fr15 hm15 f15 => ⟨fr15.rds.sub, ?_⟩)⟩
        refine fr15.app ho15.srcB (by rw [List.length_append]; unfold big; omega) (fun s16 W16 fr16 => ⟨s16, rfl, fr16.rds.sub, ?_⟩)
        rw [List.append_assoc] at fr16
        exact last _ _ fr16
    · -- numbers, vectors, bytes
      obtain ⟨g1, g2, g3, g4, g5, g6, g7, g8⟩ := hf9
      have hA : argE x f = constE x f := by unfold argE; rw [if_neg g1, if_neg g2, if_neg (by omega), if_neg g4, if_neg (by omega), if_neg g8]
      rw [hA] at hR
      rw [show ((f : Int) == 1) = false from by simp; omega, Br_false, show ((f : Int) == 2) = false from by simp; omega, Br_false]
      intro J2 hJ2
      rw [show ((f : Int) == 3) = false from by simp; omega, Br_false, show ((f : Int) == 5) = false from by simp; omega]
      refine hJ2 _ _ (Br.f ?_)
      rw [show ((f : Int) == 4) = false from by simp; omega, Br_false]
      intro J3 hJ3
      rw [show ((f : Int) == 6) = false from by simp; omega, Br_false, show ((f : Int) == 7) = false from by simp; omega]
      refine hJ3 _ _ (Br.f ?_)
      rw [show ((f : Int) == 8) = false from by simp; omega, Br_false]
      refine ⟨_, cell_of_heap h19 rfl, _, cell_of_heap h19 rfl, _, cell_of_heap h19 rfl, _, cell_of_heap h19 rfl, _, cell_of_heap h19 rfl, s, cell_of_heap h19 rfl, f, cell_of_heap h49 rfl, ?_⟩
      refine CallV.mk ent_expr_constant (constant_spec W9 s6 (opB x.op) x s f W fr9.fw (by unfold big; omega) (fun _ => by omega)) ?_
      rintro e W10 ⟨t, rfl, fw10⟩
      exact ⟨_, rfl, t, _, rfl, hR _ _ ⟨t, rfl, fw10⟩⟩
  have hs5 := hm15.size
  refine ⟨x.op, cell_of_heap h16 rfl, Br.dec (fun hge => ?_) (fun hlt => ?_)⟩
  · refine Na.mk fun b7 W7 hb7 hm7 hs7 hc7 => ?_
    refine ⟨x.op, cell_of_heap (hm7.heap h16 (fun h => h)) rfl, ?_⟩
    refine Na.mk fun b8 W8 hb8 hm8 hs8 hc8 => ?_
    have fw7 : Fw W W7 ⟨some ⟨b7, 0, none⟩, 1, 1⟩ [253] := Fw.one (hm15.trans0 hm6) hb7 hm7 hc7
    have fr8 : Fr W W8.cell? W8 ⟨none, 0, 0⟩ [] := ⟨⟨Own.nil _ _ _, fw7.mod.trans0 hm8, fun b hb => absurd hb (nil_notB b)⟩, ⟨Sub.self _, fun p v _ h => nil_notB _ h⟩⟩
    rw [show IntKind.wrap .i64 (x.op - 64768) = x.op - 64768 from wrap_id (by omega) (by omega)] at hc8
    have eb : (numE (x.op - 64768)).b = lebU (x.op - 64768).toNat := by
      show lebU ((x.op - 64768) % 18446744073709551616).toNat = _
      congr 1; omega
    refine fr8.putU hc8 (fun t W9 ho9 _ hm9 f9 => ?_)
    rw [eb] at ho9
    have hll : (lebU (x.op - 64768).toNat).length ≤ 10 := lebU_len10 (by omega)
    have fw9 : Fw W W9 ⟨some ⟨b7, 0, none⟩, 1, 1⟩ [253] := fw7.mod0 (hm8.trans0 hm9)
    refine fw9.app ho9.srcB (by rw [List.length_singleton]; unfold big; omega) (fun s' W10 fw10 m10 g10 => ⟨s', rfl, ?_⟩)
    have hop' : opB x.op = [253] ++ lebU (x.op - 64768).toNat := by unfold opB; rw [if_pos hge]; rfl
    have q69 : Mod NoB W6 W9 := hm7.trans0 (hm8.trans0 hm9)
    refine tail s' W10 (by rw [hop']; exact fw10) ((hm6.trans0 q69).trans m10 (fun i hi h => ?_)) (fun b hb => ?_)
    · obtain ⟨q, hq, rfl⟩ := h; cases hq; change b7 < _ at hi; have := hm6.size; omega
    · have := hm6.size; have := q69.size
      rcases g10 b hb with h | h
      · obtain ⟨q, hq, rfl⟩ := h; cases hq; show W5.heap.size ≤ b7; omega
      · omega
  · rw [wrap_u8] at hc6
    have fw6 : Fw W W6 ⟨some ⟨b6, 0, none⟩, 1, 1⟩ [x.op % 256] := Fw.one hm15 hb6 hm6 hc6
    have hop' : opB x.op = [x.op % 256] := by unfold opB; rw [if_neg hlt]
    refine tail ⟨some ⟨b6, 0, none⟩, 1, 1⟩ W6 (by rw [hop']; exact fw6) hm6 (fun b hb => ?_)
    obtain ⟨q, hq, rfl⟩ := hb; cases hq; show W5.heap.size ≤ b6; omega
theorem put_spec' (W : World) (x : Instr) (s : Sl) {r0 : Rd} (hr0 : Sub r0 W) (hl : Ints r0 s x.l) (hw : instrW x ≤ big) (ha : -9223372036854775808 ≤ x.a ∧ x.a < 9223372036854775808) :
    Calls Tryd.prog f_expr_put #[InstrV x s] W fun e W' => ∃ t : Sl, e = .returned (.tuple #[t.v, .bool (instrE x).ok]) ∧ Fw W W' t (instrE x).b := by
  refine of_expr_put _ _ _ _ _ _ _ _ (put_walk W x s hr0 hl hw ha _ (fun h W' hm => ?_) (fun h1 h2 e W' h => ?_))
  · have : instrE x = ⟨[], false⟩ := by unfold instrE; rcases h with h | h <;> simp [h]
    rw [this]
    exact ⟨⟨none, 0, 0⟩, rfl, Own.nil _ _ _, hm, fun b hb => absurd hb (nil_notB b)⟩
  · have : instrE x = E.app ⟨opB x.op, true⟩ (argE x (instrOf x.op).1.form) := by unfold instrE; simp [h1, h2]
    rw [this]
    obtain ⟨t, rfl, ht⟩ := h
    exact ⟨t, by rw [E.app_ok, Bool.true_and], ht⟩
end Go.Proofs.YtacjnpahlbibhaaDoor

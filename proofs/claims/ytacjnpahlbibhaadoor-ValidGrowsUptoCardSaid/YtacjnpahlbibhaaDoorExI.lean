/- Contracts: expr.Write; the output's method expr. -/
import Derived.Test.YtacjnpahlbibhaaDoorExH
set_option linter.unusedVariables false
set_option linter.unusedSimpArgs false
set_option maxRecDepth 100000
namespace Go.Proofs.YtacjnpahlbibhaaDoor
open Go Go.RowKit

theorem E.cat_take_len (l : List Instr) (hr : ∀ x ∈ l, -9223372036854775808 ≤ x.a ∧ x.a < 9223372036854775808) (hw : codeW l ≤ big) : (E.cat (l.map instrE)).b.length ≤ codeW l := by
  induction l with
  | nil => simp [E.cat, E.nil]
  | cons x l ih =>
    unfold codeW at ih hw ⊢
    rw [List.map_cons, List.sum_cons] at hw
    rw [List.map_cons, List.map_cons, List.sum_cons, E.cat, E.app_b, List.length_append]
    have h1 := ih (fun y hy => hr y (List.mem_cons_of_mem _ hy)) (by omega)
    have h2 : (instrE x).b.length ≤ instrW x := by
      unfold instrE
      by_cases h : (!(instrOf x.op).2 || !restOk x (instrOf x.op).1.form) = true
      · simp only [h, if_true]; simp
      · simp only [h]
        have hok : (instrOf x.op).2 = true := by cases hh : (instrOf x.op).2 with | true => rfl | false => simp [hh] at h
        have h3 := opB_len (instrOf_form hok).2
        have h4 := argE_len x (instrOf x.op).1.form (by omega) (hr x (List.mem_cons_self ..))
        show (opB x.op ++ (argE x (instrOf x.op).1.form).b).length ≤ _
        rw [List.length_append]; unfold instrW; omega
    omega
theorem E.cat_ok (l : List E) : (E.cat l).ok = l.all (·.ok) := by
  induction l with
  | nil => rfl
  | cons a r ih => rw [E.cat, E.app_ok, ih]; rfl
theorem CodeR.range {r : Rd} {s : Sl} {l : List Instr} (h : CodeR r s l) : ∀ x ∈ l, -9223372036854775808 ≤ x.a ∧ x.a < 9223372036854775808 := by
  intro x hx
  obtain ⟨i, hi, rfl⟩ := List.getElem_of_mem hx
  obtain ⟨q, hq, i0, i1, i2, i3, i4, sl, i5, i6, i7⟩ := h.get hi
  exact i7
theorem Write_spec (W : World) {s0 : Sl} {l : List Instr} {r : Rd} (hr : Sub r W) (h0 : CodeR r s0 l) (hl : codeW l ≤ big) :
    Calls Tryd.prog f_expr_Write #[s0.v] W fun e W' => ∃ t : Sl, e = .returned (.tuple #[t.v, .int .i64 (if (writeE l).ok then 0 else 1)]) ∧ Fw W W' t (writeE l).b := by
  refine of_expr_Write _ _ _ ?_
  unfold V_expr_Write
  have hlen := codeW_len l
  have hl' := hl
  unfold big at hl'
  refine CallV.mk ent_expr_closed (closed_spec W hr h0 (by unfold big; omega)) ?_
  rintro e W1 ⟨rfl, hm1⟩
  refine ⟨_, rfl, closedOk l, rfl, Br.mk (fun hb => ?_) (fun hb => ?_)⟩
  · have hc : closedOk l = false := by simpa using hb
    have : writeE l = ⟨[], false⟩ := by unfold writeE; simp [hc]
    rw [this]
    exact ⟨⟨none, 0, 0⟩, rfl, Own.nil _ _ _, hm1, fun b hb => absurd hb (nil_notB b)⟩
  · have hc : closedOk l = true := by simpa using hb
    intro L hL
    have key : ∀ (n k : Nat) (s4 : Sl) (W2 : World), n = l.length - k → k ≤ l.length → (E.cat ((l.take k).map instrE)).ok = true → Fw W W2 s4 (E.cat ((l.take k).map instrE)).b → L s4 (k : Int) W2 := by
      intro n
      induction n with
      | zero =>
        intro k s4 W2 hn hk hok hf
        have hk : k = l.length := by omega
        refine hL _ _ _ (Br.dec (fun h => by rw [h0.1] at h; omega) (fun _ => ?_))
        rw [hk, List.take_length] at hok hf
        have : writeE l = E.cat (l.map instrE) := by unfold writeE; rw [hc, hok]; rfl
        rw [this, hok]
        exact ⟨s4, rfl, hf⟩
      | succ n ih =>
        intro k s4 W2 hn hk hok hf
        have hlt : k < l.length := by omega
        refine hL _ _ _ (Br.dec (fun _ => ?_) (fun hge => absurd (by rw [h0.1]; omega) hge))
        obtain ⟨q, hq, i0, i1, i2, i3, i4, sl, i5, i6, i7⟩ := h0.get hlt
        have hs := hr.mod0 hf.mod
        refine ⟨q, ⟨hq, by omega, by rw [h0.1]; omega⟩, _, hs _ _ i0, _, hs _ _ i1, _, hs _ _ i2, _, hs _ _ i3, _, hs _ _ i4, sl, hs _ _ i5, ?_⟩
        refine Na.mk fun b5 W3 hb5 hm3 hs3 hc3 => ?_
        refine stC_at (b := b5) (o := 0) rfl hc3 (by simp) (by simp [Value.oneCell', Sl.v]) (fun W4 h4 m4 sz4 => ?_)
        rw [setL_all (by simp)] at h4
        have hlt5 := heap_lt hc3
        have hm24 : Mod NoB W2 W4 := hm3.trans m4 (fun i hi e => by omega)
        have hf4 := hf.mod0 hm24
        refine ⟨_, cell_of_heap h4 rfl, _, cell_of_heap h4 rfl, _, cell_of_heap h4 rfl, _, cell_of_heap h4 rfl, _, cell_of_heap h4 rfl, sl, cell_of_heap h4 rfl, ?_⟩
        refine CallV.mk ent_expr_put (put_spec' W4 l[k] sl (hr.mod0 hf4.mod) i6 (Nat.le_trans (codeW_get hlt) hl) i7) ?_
        rintro e W5 ⟨t, rfl, ft⟩
        have hf5 := hf4.mod0 ft.mod
        have hcat : E.cat ((l.take (k + 1)).map instrE) = (E.cat ((l.take k).map instrE)).app (instrE l[k]) := by
          rw [List.take_succ_eq_append_getElem hlt, List.map_append, E.cat_append]; simp [E.cat, E.app_nil]
        refine ⟨_, rfl, t, (instrE l[k]).ok, rfl, Br.mk (fun hb => ?_) (fun hb => ?_)⟩
        · have hno : (instrE l[k]).ok = false := by simpa using hb
          have : writeE l = ⟨[], false⟩ := by
            unfold writeE
            have : (E.cat (l.map instrE)).ok = false := by
              rw [E.cat_ok, List.all_eq_false]
              exact ⟨_, List.mem_map.2 ⟨l[k], List.getElem_mem hlt, rfl⟩, by simp [hno]⟩
            rw [this, Bool.and_false]; rfl
          rw [this]
          exact ⟨⟨none, 0, 0⟩, rfl, Own.nil _ _ _, hf5.mod, fun b hb => absurd hb (nil_notB b)⟩
        · have hyes : (instrE l[k]).ok = true := by simpa using hb
          have hb1 : (E.cat ((l.take (k + 1)).map instrE)).b.length ≤ codeW (l.take (k + 1)) := E.cat_take_len _ (fun x hx => CodeR.range h0 x (List.mem_of_mem_take hx)) (Nat.le_trans (codeW_take l _) hl)
          have hb2 := codeW_take l (k + 1)
          rw [hcat, E.app_b, List.length_append] at hb1
          refine hf5.app ft.own.srcB (by omega) (fun s' W6 hf6 m6 g6 => ⟨s', rfl, ?_⟩)
          rw [wrap_id (by omega) (by omega)]
          refine ih (k + 1) s' W6 (by omega) hlt ?_ ?_
          · rw [hcat, E.app_ok, hok, hyes]; rfl
          · rw [hcat, E.app_b]; exact hf6
    exact key l.length 0 ⟨none, 0, 0⟩ W1 (by omega) (by omega) rfl ⟨Own.nil _ _ _, hm1, fun b hb => absurd hb (nil_notB b)⟩
theorem writeE_len {l : List Instr} (hr : ∀ x ∈ l, -9223372036854775808 ≤ x.a ∧ x.a < 9223372036854775808) (hw : codeW l ≤ big) : (writeE l).b.length ≤ codeW l := by
  unfold writeE
  split
  · exact E.cat_take_len l hr hw
  · simp
/-- An expression behind the bytes so far. -/
theorem expr_spec {W : World} {q : Addr} {F : Nat → Prop} {bs : List Int} {bad : Bool} (h : OutAt W q F bs bad) {r : Rd} (hr : Rds r W F) {s : Sl} {l : List Instr} (h0 : CodeR r s l) (hl : bs.length + codeW l ≤ big) :
    Calls Tryd.prog f_encode_out_expr #[.pointer (some q), s.v] W (OutPost W q F (bs ++ (writeE l).b) (bad || !(writeE l).ok)) := by
  refine of_encode_out_expr _ _ _ _ ?_
  unfold V_encode_out_expr
  have hwl := writeE_len (CodeR.range h0) (by omega)
  refine CallV.mk ent_expr_Write (Write_spec W hr.sub h0 (by omega)) ?_
  rintro e W1 ⟨t, rfl, ft⟩
  have hst := (OutSt.start h).mod0 ft.mod
  have hr1 : Rds (offS W1 F) W1 F := Rds.all _ _
  have hb : Bytes (offS W1 F) t (writeE l).b := ft.own.ints (fun p hp i v hc => offS_of hc (fun hF => by
    rw [add_block] at hF
    have := h.lt hF
    have := ft.fresh _ ⟨p, hp, rfl⟩
    omega))
  refine ⟨_, rfl, t, _, rfl, ?_⟩
  have he : ((if (writeE l).ok = true then (0 : Int) else 1) == 0) = (writeE l).ok := by cases (writeE l).ok <;> rfl
  rw [he]
  refine hst.must (ok := (writeE l).ok) (fun W2 F2 hst2 m2 g2 => ⟨rfl, ?_⟩)
  have hr2 := hr1.step m2 g2
  obtain ⟨s0, d0, _⟩ := hst2.out.open
  refine ⟨q, rfl, s0, d0, ?_⟩
  refine hst2.tail d0 (hb.src hr2.sub) (by simp [E.app, E.nil]; omega) (fun W3 F3 hst3 m3 g3 => ?_)
  have := hst3.done
  simpa [E.app, E.nil] using this
theorem OutSt.expr {W0 W : World} {q : Addr} {F0 F : Nat → Prop} {bs : List Int} {bad : Bool} {x : E} (h : OutSt W0 q F0 bs bad x W F) {r : Rd} (hr : Rds r W F) {s : Sl} {l : List Instr} (h0 : CodeR r s l)
    (hl : bs.length + x.b.length + codeW l ≤ big) {K : Value → World → Prop} (hk : ∀ W' F', OutSt W0 q F0 bs bad (x.app (writeE l)) W' F' → Mod F W W' → Grows F W F' → K (.tuple #[]) W') :
    CallV Tryd.prog f_encode_out_expr #[.pointer (some q), s.v] W K :=
  h.step ent_encode_out_expr (bs' := (writeE l).b) (ok := (writeE l).ok) (expr_spec h.out hr h0 (by rw [List.length_append]; omega)) hk
end Go.Proofs.YtacjnpahlbibhaaDoor

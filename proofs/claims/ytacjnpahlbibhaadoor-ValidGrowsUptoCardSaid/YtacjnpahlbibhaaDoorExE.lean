/- Contracts: expr.constant. -/
import Derived.Test.YtacjnpahlbibhaaDoorExD
set_option linter.unusedVariables false
set_option linter.unusedSimpArgs false
set_option maxRecDepth 100000
namespace Go.Proofs.YtacjnpahlbibhaaDoor
open Go Go.RowKit

theorem wrap_i32 (x : Int) : IntKind.wrap .i32 x = s32 x := by
  unfold s32
  simp [IntKind.wrap, IntKind.bits, IntKind.signed]
  split <;> omega
theorem wrap_s64 (x : Int) : IntKind.wrap .i64 x = s64 x := by
  unfold s64
  simp [IntKind.wrap, IntKind.bits, IntKind.signed]
  split <;> omega
theorem s64_range (x : Int) : -9223372036854775808 ≤ s64 x ∧ s64 x < 9223372036854775808 := by unfold s64; omega
theorem s32_range (x : Int) : -2147483648 ≤ s32 x ∧ s32 x < 2147483648 := by unfold s32; omega
/-- Bytes that a call has written so far, into memory of its own. -/
structure Fw (W0 W : World) (s : Sl) (xs : List Int) : Prop where
  own : Own W ty_uint8 1 s (bv xs)
  mod : Mod NoB W0 W
  fresh : ∀ b, s.isB b → W0.heap.size ≤ b
theorem Fw.mod0 {W0 W W' : World} {s : Sl} {xs : List Int} (h : Fw W0 W s xs) (m : Mod NoB W W') : Fw W0 W' s xs := ⟨h.own.mod0 m, h.mod.trans0 m, h.fresh⟩
theorem Fw.nil (W : World) : Fw W W ⟨none, 0, 0⟩ [] := ⟨Own.nil _ _ _, Mod.refl _ _, fun b hb => absurd hb (nil_notB b)⟩
/-- One new byte. -/
theorem Fw.one {W0 W W1 : World} {b : Nat} {x : Int} (h0 : Mod NoB W0 W) (hb : b = W.heap.size) (hm : Mod NoB W W1) (hc : W1.heap[b]? = some (.cells #[.int .u8 x] ty_uint8 (0, 0))) : Fw W0 W1 ⟨some ⟨b, 0, none⟩, 1, 1⟩ [x] := by
  refine ⟨⟨rfl, .inr ⟨b, _, _, rfl, hc, .inl rfl, Nat.le_refl _, (by show 1 ≤ maxLen; unfold maxLen; omega), rfl, rfl⟩⟩, h0.trans0 hm, ?_⟩
  rintro b' ⟨q, hq, rfl⟩; cases hq; have := h0.size; show W0.heap.size ≤ b; omega
theorem Fw.app {W0 W : World} {s : Sl} {xs : List Int} (h : Fw W0 W s xs) {t : Value} {tx ty : TypeId} {ys : List Int} (hs : Src Tryd.prog 1 tx t ys.length (bv ys) W) (hl : xs.length + ys.length ≤ big) {K : Value → World → Prop}
    (hk : ∀ s' W', Fw W0 W' s' (xs ++ ys) → Mod s.isB W W' → (∀ b, s'.isB b → s.isB b ∨ W.heap.size ≤ b) → K s'.v W') : RunV Tryd.prog (Builtin.append_ #[ty_sl_uint8, tx] ty #[s.v, t]) W K := by
  refine app_bytes h.own hs hl (fun s' W' ho hm hb => hk s' W' ⟨ho, h.mod.trans hm (fun i hi hs => by have := h.fresh i hs; omega), fun b hb' => ?_⟩ hm hb)
  have := h.mod.size
  rcases hb b hb' with h' | h'
  · exact h.fresh b h'
  · omega
theorem Own.srcB {W : World} {t : Sl} {ys : List Int} (h : Own W ty_uint8 1 t (bv ys)) : Src Tryd.prog 1 ty_sl_uint8 t.v ys.length (bv ys) W := h.bytes.src (Sub.self W)
theorem putU_call {W : World} {b : Nat} {x : Int} {e : TypeId} (hc : W.heap[b]? = some (.cells #[.int .u64 x] e (0, 0))) (hx : 0 ≤ x ∧ x < 18446744073709551616) {K : Value → World → Prop}
    (hk : ∀ (t : Sl) W', Own W' ty_uint8 1 t (bv (lebU x.toNat)) → Mod NoB W W' → (∀ b, t.isB b → W.heap.size ≤ b) → ∃ s : Sl, t.v = s.v ∧ K s.v W') : CallV Tryd.prog f_leb_PutU #[.slice (some ⟨b, 0, none⟩) 1 1] W (fun v W' => ∃ s : Sl, v = s.v ∧ K s.v W') := by
  refine CallV.mk ent_leb_PutU (PutU_spec (s := ⟨some ⟨b, 0, none⟩, 1, 1⟩) (Sub.self W) (one_int hc) (by intro y hy; simp at hy; subst hy; exact hx) (by simp)) ?_
  rintro e W' ⟨t, rfl, ho, hm, hb⟩
  exact ⟨_, rfl, hk t W' (by simpa using ho) hm hb⟩
theorem constant_spec (W : World) (s0 : Sl) (out : List Int) (x : Instr) (s : Sl) (f : Int) (W0 : World) (h0 : Fw W0 W s0 out) (hl : out.length + 30 ≤ big) (hf : f ≠ 11 → f = 9 ∨ f = 10 ∨ f = 12 ∨ f = 13 ∨ f = 14) :
    Calls Tryd.prog f_expr_constant #[s0.v, InstrV x s, .int .i64 f] W fun e W' => ∃ t : Sl, e = .returned (.tuple #[t.v, .bool (constE x f).ok]) ∧ Fw W0 W' t (out ++ (constE x f).b) := by
  refine of_expr_constant _ _ _ _ _ _ _ _ _ _ ?_
  unfold V_expr_constant
  refine Na.mk fun b W1 hb hm hs1 hc => ?_
  have h1 := h0.mod0 hm
  have hcase : f = 9 ∨ f = 10 ∨ f = 13 ∨ f = 14 ∨ f = 11 ∨ f = 12 := by omega
  rcases hcase with rfl | rfl | rfl | rfl | hf2
  · rw [show ((9 : Int) == 9) = true from rfl, Br_true]
    refine Dw.mk fun W2 hm2 _ => ?_
    have h2 := h1.mod0 hm2
    refine ⟨fun w => w.heap[b]? = some (.cells (instrC x s) 40 (0, 0)), hm2.heap hc (fun h => h), x.lo, fun w hw => cell_of_heap hw rfl, x.lo, fun w hw => cell_of_heap hw rfl, ?_⟩
    refine Na.mk fun b3 W3 hb3 hm3 hs3 hc3 => ⟨(hm2.trans0 hm3).heap hc (fun h => h), ?_⟩
    have h3 := h2.mod0 hm3
    have hr := s32_range x.lo
    have hrl : (lebS (s32 x.lo)).length ≤ 10 := lebS_len10 (by omega) (by omega)
    rw [wrap_i32, wrap_id (by omega) (by omega)] at hc3
    refine CallV.mk ent_leb_PutS (PutS_spec (s := ⟨some ⟨b3, 0, none⟩, 1, 1⟩) (Sub.self W3) (one_int hc3) (by intro y hy; simp at hy; subst hy; omega) (by simp)) ?_
    rintro e W4 ⟨t, rfl, ho4, hm4, hb4⟩
    refine ⟨_, rfl, t, rfl, ((hm2.trans0 hm3).trans0 hm4).heap hc (fun h => h), ?_⟩
    have h4 := h3.mod0 hm4
    have ho4 : Own W4 ty_uint8 1 t (bv (lebS (s32 x.lo))) := by simpa using ho4
    refine h4.app ho4.srcB (by omega) (fun s' W5 h5 m5 hb5 => ⟨s', rfl, ?_, ?_⟩)
    · exact m5.heap (((hm2.trans0 hm3).trans0 hm4).heap hc (fun h => h)) (fun hb' => by have := h0.own.lt hb'; omega)
    · exact ⟨s', rfl, h5⟩
  · simp only [Int.reduceBEq, Br_true, Br_false]
    refine ⟨x.lo, cell_of_heap hc rfl, ?_⟩
    refine Na.mk fun b3 W3 hb3 hm3 hs3 hc3 => ?_
    have h3 := h1.mod0 hm3
    have hr := s64_range x.lo
    have hrl : (lebS (s64 x.lo)).length ≤ 10 := lebS_len10 (by omega) (by omega)
    rw [wrap_s64] at hc3
    refine CallV.mk ent_leb_PutS (PutS_spec (s := ⟨some ⟨b3, 0, none⟩, 1, 1⟩) (Sub.self W3) (one_int hc3) (by intro y hy; simp at hy; subst hy; omega) (by simp)) ?_
    rintro e W4 ⟨t, rfl, ho4, hm4, hb4⟩
    refine ⟨_, rfl, t, rfl, ?_⟩
    have h4 := h3.mod0 hm4
    have ho4 : Own W4 ty_uint8 1 t (bv (lebS (s64 x.lo))) := by simpa using ho4
    exact h4.app ho4.srcB (by omega) (fun s' W5 h5 m5 hb5 => ⟨s', rfl, s', rfl, h5⟩)
  · simp only [Int.reduceBEq, Br_true, Br_false]
    refine Dw.mk fun W2 hm2 _ => ?_
    have h2 := h1.mod0 hm2
    refine ⟨fun w => w.heap[b]? = some (.cells (instrC x s) 40 (0, 0)), hm2.heap hc (fun h => h), x.a, fun w hw => cell_of_heap hw rfl, x.a, fun w hw => cell_of_heap hw rfl, ?_⟩
    refine Na.mk fun b3 W3 hb3 hm3 hs3 hc3 => ⟨(hm2.trans0 hm3).heap hc (fun h => h), ?_⟩
    rw [wrap_u8] at hc3
    have h3 := h2.mod0 hm3
    refine h3.app ((one_byte hc3).src (Sub.self _)) (by rw [List.length_singleton]; omega) (fun s' W5 h5 m5 hb5 => ⟨s', rfl, ?_, x.a, fun _ w hw => cell_of_heap hw rfl, s', rfl, h5⟩)
    exact m5.heap ((hm2.trans0 hm3).heap hc (fun h => h)) (fun hb' => by have := h0.own.lt hb'; omega)
  · simp only [Int.reduceBEq, Br_true, Br_false]
    refine Na.mk fun b3 W3 hb3 hm3 hs3 hc3 => ?_
    have h3 := h1.mod0 hm3
    exact h3.app ((one_byte hc3).src (Sub.self _)) (by rw [List.length_singleton]; omega) (fun s' W5 h5 m5 hb5 => ⟨s', rfl, s', rfl, h5⟩)
  · have hjoin : CallV Tryd.prog f_pair_Join #[.agg #[.int .u64 x.lo, .int .u64 x.hi]] W1 (fun v W' => v = .agg (bv (joinB x.lo x.hi)).toArray ∧ Mod NoB W1 W') := by
      refine CallV.mk ent_pair_Join (Join_spec W1 x.lo x.hi) ?_
      rintro e W' ⟨rfl, hm'⟩
      exact ⟨_, rfl, rfl, hm'⟩
    rcases hf2 with rfl | rfl <;>
    · simp only [Int.reduceBEq, Br_true, Br_false]
      refine ⟨x.lo, cell_of_heap hc rfl, x.hi, cell_of_heap hc rfl, hjoin.1, hjoin.2.mono ?_⟩
      rintro e W2 ⟨v, rfl, rfl, hm2⟩
      have h2 := h1.mod0 hm2
      refine ⟨_, rfl, byteAt x.lo 0, byteAt x.lo 1, byteAt x.lo 2, byteAt x.lo 3, byteAt x.lo 4, byteAt x.lo 5, byteAt x.lo 6, byteAt x.lo 7, byteAt x.hi 0, byteAt x.hi 1, byteAt x.hi 2, byteAt x.hi 3, byteAt x.hi 4, byteAt x.hi 5, byteAt x.hi 6, byteAt x.hi 7, rfl, ?_⟩
      refine Na.mk fun b3 W3 hb3 hm3 hs3 hc3 => ?_
      have h3 := h2.mod0 hm3
      refine stC_at (b := b3) (o := 0) rfl hc3 (by simp) (by simp [Value.oneCell']) (fun W4 h4 m4 sz4 => ?_)
      rw [setL_all (by simp)] at h4
      have hl3 := heap_lt hc3
      have h4' : Fw W0 W4 s0 out := ⟨h3.own.mod m4 (fun b' hb' e => by have := h0.own.lt hb'; have := hm.size; have := hm2.size; omega), h3.mod.trans m4 (fun i hi e => by have := h2.mod.size; omega), h3.fresh⟩
      have hB : Bytes W4.cell? ⟨some ((⟨b3, 0, none⟩ : Addr).add (0 * 1)), 16 - 0, 16 - 0⟩ (joinB x.lo x.hi) := by
        refine ⟨rfl, fun i y hy => ⟨_, rfl, ?_⟩⟩
        rw [add_mk, add_mk]
        refine cell_of_heap h4 ?_
        rw [List.getElem?_toArray]
        have : ((bv (joinB x.lo x.hi)))[i]? = some (.int .u8 y) := by rw [List.getElem?_map, hy]; rfl
        rw [show 0 + 0 * 1 + i * 1 = i from by omega]
        exact this
      have hsrc := hB.src (Sub.self W4)
      rw [if_neg (by decide)]
      refine h4'.app hsrc (by rw [joinB_len]; omega) (fun s' W5 h5 m5 hb5 => ⟨s', rfl, s', rfl, h5⟩)
end Go.Proofs.YtacjnpahlbibhaaDoor

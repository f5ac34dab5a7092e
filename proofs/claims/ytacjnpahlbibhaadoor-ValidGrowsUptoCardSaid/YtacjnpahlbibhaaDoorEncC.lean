/- Contracts: the output's methods limits, put. -/
import Derived.Test.YtacjnpahlbibhaaDoorEncB
set_option linter.unusedVariables false
set_option linter.unusedSimpArgs false
set_option maxRecDepth 100000
namespace Go.Proofs.YtacjnpahlbibhaaDoor
open Go Go.RowKit

theorem Sl.v_inj {s t : Sl} (h : s.v = t.v) : s = t := by
  obtain ⟨a, l, c⟩ := s; obtain ⟨a', l', c'⟩ := t
  simp [Sl.v] at h
  simp [h]
section
variable {W0 W : World} {q : Addr} {F0 F : Nat → Prop} {bs : List Int} {bad : Bool} {x : E}
/-- The bytes get others behind them. -/
theorem OutSt.tail (h : OutSt W0 q F0 bs bad x W F) {s0 : Sl} (hc : W.cell? (q.add 0) = some s0.v) {tx ty : TypeId} {v : Value} {ys : List Int} (hs : Src Tryd.prog 1 tx v ys.length (bv ys) W)
    (hl : bs.length + x.b.length + ys.length ≤ big) {K : World → Prop} (hk : ∀ W' F', OutSt W0 q F0 bs bad (x.app ⟨ys, true⟩) W' F' → Mod F W W' → Grows F W F' → K W') :
    RunV Tryd.prog (Builtin.append_ #[ty_sl_uint8, tx] ty #[s0.v, v]) W fun v W7 => ∃ s34 : Sl, v = s34.v ∧ ∃ q35 : Addr, some q = some q35 ∧ stC W7 (q35.add 0) [s34.v] 0 K := by
  obtain ⟨s1, c1, _, _, ho, hs1, _⟩ := h.out.open
  have e : s1 = s0 := by rw [hc] at c1; exact Sl.v_inj (by simpa using c1.symm)
  subst e
  refine app_bytes ho hs (by rw [List.length_append]; omega) (fun s' W6 ho' hm6 hb6 => ⟨s', rfl, q, rfl, h.out.setB hc ho' hm6 hb6 (fun W7 F7 g7 m7 gr7 => ?_)⟩)
  refine hk W7 F7 ⟨?_, h.mod.steps m7 h.grows, h.grows.trans gr7 h.size⟩ m7 gr7
  rw [E.app_b, E.app_ok, Bool.and_true, ← List.append_assoc]
  exact g7
end

/-! ### Limits -/
theorem limE_len (mn mx most : Int) : (limE mn mx most).b.length ≤ 21 := by
  unfold limE
  have h1 := numE_len mn
  have h2 := numE_len mx
  split <;> simp only [E.app_b, List.length_append, List.length_cons, List.length_nil] <;> omega
theorem limits_spec {W : World} {q : Addr} {F : Nat → Prop} {bs : List Int} {bad : Bool} (h : OutAt W q F bs bad) (mn mx most : Int) (hl : bs.length + 21 ≤ big) :
    Calls Tryd.prog f_encode_out_limits #[.pointer (some q), .agg #[.int .i64 mn, .int .i64 mx], .int .i64 most] W (OutPost W q F (bs ++ (limE mn mx most).b) (bad || !(limE mn mx most).ok)) := by
  refine of_encode_out_limits _ _ _ _ _ _ ?_
  unfold V_encode_out_limits
  refine Na.mk fun b W1 hb hm hs hc => ?_
  have hst := (OutSt.start h).mod0 hm
  have hnb : ¬ F b := (OutSt.start h).new (W' := W1) hb
  have hr : Rds (offS W1 F) W1 F := Rds.all _ _
  have c0 : offS W1 F ((⟨b, 0, none⟩ : Addr).add 0) = some (.int .i64 mn) := offS_of (cell_of_heap hc rfl) hnb
  have c1 : offS W1 F ((⟨b, 0, none⟩ : Addr).add 1) = some (.int .i64 mx) := offS_of (cell_of_heap hc rfl) hnb
  refine ⟨mn, hr.sub _ _ c0, ?_⟩
  refine hst.must (ok := decide (mn ≤ most)) (fun W2 F2 hst2 m2 g2 => ⟨rfl, ?_⟩)
  have hr2 := hr.step m2 g2
  refine ⟨mx, hr2.sub _ _ c1, Br.eq (fun he => ?_) (fun hne => ?_)⟩
  · refine hst2.byte (by simp [E.app, E.nil]; omega) (fun W3 F3 hst3 m3 g3 => ⟨rfl, ?_⟩)
    have hr3 := hr2.step m3 g3
    refine ⟨mn, hr3.sub _ _ c0, ?_⟩
    refine hst3.num (by simp [E.app, E.nil]; omega) (fun W4 F4 hst4 m4 g4 => ⟨rfl, ?_⟩)
    have := hst4.done
    rw [E.nil_app, E.app_assoc] at this
    rw [limE, if_pos he]; exact this
  · refine hst2.byte (by simp [E.app, E.nil]; omega) (fun W3 F3 hst3 m3 g3 => ⟨rfl, ?_⟩)
    have hr3 := hr2.step m3 g3
    refine ⟨mn, hr3.sub _ _ c0, mx, hr3.sub _ _ c1, ?_⟩
    refine hst3.num2 (by simp [E.app, E.nil]; omega) (fun W4 F4 hst4 m4 g4 => ⟨rfl, ?_⟩)
    have := hst4.done
    rw [E.nil_app, E.app_assoc] at this
    rw [limE, if_neg hne]; exact this
theorem OutSt.limits {W0 W : World} {q : Addr} {F0 F : Nat → Prop} {bs : List Int} {bad : Bool} {x : E} (h : OutSt W0 q F0 bs bad x W F) {mn mx most : Int} (hl : bs.length + x.b.length + 21 ≤ big) {K : Value → World → Prop}
    (hk : ∀ W' F', OutSt W0 q F0 bs bad (x.app (limE mn mx most)) W' F' → Mod F W W' → Grows F W F' → K (.tuple #[]) W') :
    CallV Tryd.prog f_encode_out_limits #[.pointer (some q), .agg #[.int .i64 mn, .int .i64 mx], .int .i64 most] W K :=
  h.step ent_encode_out_limits (bs' := (limE mn mx most).b) (ok := (limE mn mx most).ok) (limits_spec h.out mn mx most (by rw [List.length_append]; omega)) hk

/-! ### A piece behind its length -/
/-- An output that is read only. -/
def OutR (r : Rd) (q : Addr) (s : Sl) (bs : List Int) (bad : Bool) : Prop := r (q.add 0) = some s.v ∧ r (q.add 1) = some (.bool bad) ∧ Bytes r s bs
theorem OutAt.read {w : World} {q : Addr} {G : Nat → Prop} {bs : List Int} {bad : Bool} (h : OutAt w q G bs bad) {F : Nat → Prop} (hd : ∀ k, G k → ¬ F k) : ∃ s, OutR (offS w F) q s bs bad := by
  have hq := h.has
  obtain ⟨s, c0, c1, _, ho, hs, _⟩ := h.open
  refine ⟨s, offS_of c0 (by rw [add_block]; exact hd _ hq), offS_of c1 (by rw [add_block]; exact hd _ hq), ho.ints (fun p hp i v hc => offS_of hc (by rw [add_block]; exact hd _ (hs _ ⟨p, hp, rfl⟩)))⟩
theorem putE_len (id : Int) (xs : List Int) (bad : Bool) : (putE id xs bad).b.length ≤ xs.length + 11 := by
  unfold putE
  have h1 := numE_len xs.length
  simp only [E.app_b, List.length_append, List.length_cons, List.length_nil]; omega
theorem put_spec {W : World} {q : Addr} {F : Nat → Prop} {bs : List Int} {bad : Bool} (h : OutAt W q F bs bad) {r : Rd} (hr : Rds r W F) {p : Addr} {s : Sl} {xs : List Int} {pb : Bool} (hp : OutR r p s xs pb) (id : Int)
    (hl : bs.length + xs.length + 11 ≤ big) :
    Calls Tryd.prog f_encode_out_put #[.pointer (some q), .int .u8 id, .pointer (some p)] W (OutPost W q F (bs ++ (putE id xs pb).b) (bad || !(putE id xs pb).ok)) := by
  refine of_encode_out_put _ _ _ _ _ ?_
  unfold V_encode_out_put
  obtain ⟨c0, c1, hb⟩ := hp
  have hlen : (s.len : Int) = xs.length := by rw [hb.1]
  refine ⟨p, rfl, pb, hr.sub _ _ c1, ?_⟩
  refine (OutSt.start h).must (ok := !pb) (fun W1 F1 hst1 m1 g1 => ⟨rfl, ?_⟩)
  have hr1 := hr.step m1 g1
  refine hst1.byte (by simp [E.app, E.nil]; omega) (fun W3 F3 hst3 m3 g3 => ⟨rfl, ?_⟩)
  have hr3 := hr1.step m3 g3
  refine ⟨p, rfl, s, hr3.sub _ _ c0, ?_⟩
  rw [hlen]
  refine hst3.num (by simp [E.app, E.nil]; omega) (fun W5 F5 hst5 m5 g5 => ⟨rfl, ?_⟩)
  have hr5 := hr3.step m5 g5
  refine Dw.mk fun W6 hm6 _ => ?_
  have hst6 := hst5.mod0 hm6
  have hr6 := hr5.mod0 hm6
  obtain ⟨s0, d0, _⟩ := hst6.out.open
  refine ⟨q, rfl, s0, d0, p, rfl, s, hr6.sub _ _ c0, ?_⟩
  have hn := numE_len xs.length
  refine hst6.tail d0 (hb.src hr6.sub) (by simp [E.app, E.nil]; omega) (fun W7 F7 hst7 m7 g7 => ?_)
  have := hst7.done
  rw [E.nil_app, E.app_assoc] at this
  exact this
end Go.Proofs.YtacjnpahlbibhaaDoor

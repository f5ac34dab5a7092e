/- Contracts: the output's methods numbers, kinds, limits, put. -/
import Derived.Test.YtacjnpahlbibhaaDoorEncA
set_option linter.unusedVariables false
set_option linter.unusedSimpArgs false
set_option maxRecDepth 100000
namespace Go.Proofs.YtacjnpahlbibhaaDoor
open Go Go.RowKit

theorem E.cat_take_succ {α : Type} (f : α → E) {xs : List α} {k : Nat} (h : k < xs.length) : E.cat ((xs.take (k + 1)).map f) = (E.cat ((xs.take k).map f)).app (f xs[k]) := by
  rw [List.take_succ_eq_append_getElem h, List.map_append, E.cat_append]
  simp [E.cat, E.app_nil]
theorem numsE_take_len (xs : List Int) {k : Nat} (h : k ≤ xs.length) : (E.cat ((xs.take k).map numE)).b.length ≤ 10 * k := by
  have := numsE_len (xs.take k)
  unfold numsE at this
  rw [List.length_take, Nat.min_eq_left h] at this
  exact this
/-- Owned bytes are bytes, in memory that keeps them. -/
theorem Own.bytesIn {w : World} {e : TypeId} {s : Sl} {xs : List Int} (h : Own w e 1 s (bv xs)) : Src Tryd.prog 1 ty_sl_uint8 s.v xs.length (bv xs) w := h.bytes.src (Sub.self _)
theorem numbers_spec {W : World} {q : Addr} {F : Nat → Prop} {bs : List Int} {bad : Bool} (h : OutAt W q F bs bad) {r : Rd} (hr : Rds r W F) {s : Sl} {xs : List Int} (hx : Ints r s xs)
    (hl : bs.length + 10 * xs.length ≤ big) (hn : xs.length ≤ 1099511627776) :
    Calls Tryd.prog f_encode_out_numbers #[.pointer (some q), s.v] W (OutPost W q F (bs ++ (numsE xs).b) (bad || !(numsE xs).ok)) := by
  refine of_encode_out_numbers _ _ _ _ ?_
  unfold V_encode_out_numbers
  intro L hL
  have key : ∀ (n k : Nat) (W1 : World) (F1 : Nat → Prop), n = xs.length - k → k ≤ xs.length → OutSt W q F bs bad (E.cat ((xs.take k).map numE)) W1 F1 → L (k : Int) W1 := by
    intro n
    induction n with
    | zero =>
      intro k W1 F1 hnk hk hst
      have hk : k = xs.length := by omega
      refine hL _ _ (Br.dec (fun hlt => ?_) (fun _ => ?_))
      · rw [hx.1] at hlt; omega
      · rw [hk, List.take_length] at hst; exact hst.done
    | succ n ih =>
      intro k W1 F1 hnk hk hst
      have hlt : k < xs.length := by omega
      refine hL _ _ (Br.dec (fun _ => ?_) (fun hge => absurd (by rw [hx.1]; omega) hge))
      obtain ⟨qa, hqa, hc⟩ := hx.get hlt
      refine ⟨qa, ⟨hqa, by omega, by rw [hx.1]; omega⟩, xs[k], (hst.rds hr).sub _ _ hc, ?_⟩
      have hlen := numsE_take_len xs hk
      refine hst.must (fun W2 F2 hst2 _ _ => ⟨rfl, ?_⟩)
      refine Dw.mk fun W3 hm3 _ => ?_
      have hst3 := hst2.mod0 hm3
      obtain ⟨s0, c0, c1, hf0, ho0, hs0, hn0⟩ := hst3.out.open
      refine ⟨fun w => w.cell? (q.add 0) = some s0.v, c0, q, rfl, s0, fun w hw => hw, ?_⟩
      refine Na.mk fun b W4 hb4 hm4 _ hc4 => ?_
      refine ⟨hm4.cell c0 (fun h => h), ?_⟩
      rw [wrap_u64] at hc4
      refine CallV.mk ent_leb_PutU (PutU_spec (s := ⟨some ⟨b, 0, none⟩, 1, 1⟩) (Sub.self W4) (one_int hc4) (by intro y hy; simp at hy; subst hy; omega) (by simp)) ?_
      rintro e W5 ⟨s28, rfl, ho5, hm5, hb5⟩
      refine ⟨_, rfl, s28, rfl, (hm4.transS hm5).cell c0 (fun h => h), ?_⟩
      have hm35 : Mod NoB W3 W5 := hm4.transS hm5
      have hst5 := hst3.mod0 hm35
      have hc5 : W5.cell? (q.add 0) = some s0.v := hm35.cell c0 (fun h => h)
      have hu : (([xs[k] % 18446744073709551616].flatMap fun x => lebU x.toNat) : List Int) = (numE xs[k]).b := by simp [numE]
      rw [hu] at ho5
      have hl10 := numE_len xs[k]
      refine app_bytes (ho0.mod0 hm35) ho5.bytesIn (by rw [E.app_b, List.append_nil, List.length_append]; omega) (fun s' W6 ho' hm6 hb6 => ⟨s', rfl, q, rfl, ?_⟩)
      refine hst5.out.setB hc5 ho' hm6 hb6 (fun W7 F7 g7 m7 gr7 => ?_)
      rw [wrap_id (by omega) (by omega)]
      refine ih (k + 1) W7 F7 (by omega) hlt ?_
      rw [E.cat_take_succ numE hlt]
      refine ⟨?_, hst5.mod.steps m7 hst5.grows, hst5.grows.trans gr7 hst5.size⟩
      rw [E.app_b, E.app_ok] at g7 ⊢
      rw [List.append_nil] at g7
      rw [← List.append_assoc]
      exact g7
  exact key xs.length 0 W F (by omega) (by omega) (by simpa [E.cat] using OutSt.start h)

/-! ### Types -/
theorem kindsE_len (l : List Int) : (kindsE l).b.length = l.length := by
  induction l with
  | nil => rfl
  | cons a r ih => unfold kindsE at ih ⊢; rw [List.map_cons, E.cat, E.app_b, List.length_append, ih]; simp [kindE]; omega
theorem kinds_spec {W : World} {q : Addr} {F : Nat → Prop} {bs : List Int} {bad : Bool} (h : OutAt W q F bs bad) {r : Rd} (hr : Rds r W F) {s : Sl} {xs : List Int} (hx : Ints r s xs)
    (hl : bs.length + xs.length ≤ big) (hn : xs.length ≤ 1099511627776) :
    Calls Tryd.prog f_encode_out_kinds #[.pointer (some q), s.v] W (OutPost W q F (bs ++ (kindsE xs).b) (bad || !(kindsE xs).ok)) := by
  refine of_encode_out_kinds _ _ _ _ ?_
  unfold V_encode_out_kinds
  intro L hL
  have key : ∀ (n k : Nat) (W1 : World) (F1 : Nat → Prop), n = xs.length - k → k ≤ xs.length → OutSt W q F bs bad (E.cat ((xs.take k).map kindE)) W1 F1 → L (k : Int) W1 := by
    intro n
    induction n with
    | zero =>
      intro k W1 F1 hnk hk hst
      have hk : k = xs.length := by omega
      refine hL _ _ (Br.dec (fun hlt => ?_) (fun _ => ?_))
      · rw [hx.1] at hlt; omega
      · rw [hk, List.take_length] at hst; exact hst.done
    | succ n ih =>
      intro k W1 F1 hnk hk hst
      have hlt : k < xs.length := by omega
      refine hL _ _ (Br.dec (fun _ => ?_) (fun hge => absurd (by rw [hx.1]; omega) hge))
      obtain ⟨qa, hqa, hc⟩ := hx.get hlt
      refine ⟨qa, ⟨hqa, by omega, by rw [hx.1]; omega⟩, xs[k], (hst.rds hr).sub _ _ hc, ?_⟩
      have hlen : (E.cat ((xs.take k).map kindE)).b.length = k := by
        have := kindsE_len (xs.take k)
        unfold kindsE at this
        rw [List.length_take, Nat.min_eq_left hk] at this
        exact this
      refine hst.must (ok := isKind xs[k]) (fun W2 F2 hst2 _ _ => ⟨rfl, ?_⟩)
      rw [wrap_u8]
      refine hst2.byte (by rw [E.app_b, List.append_nil]; omega) (fun W4 F4 hst4 _ _ => ⟨rfl, ?_⟩)
      rw [wrap_id (by omega) (by omega)]
      refine ih (k + 1) W4 F4 (by omega) hlt ?_
      rw [E.cat_take_succ kindE hlt]
      have : ((E.cat ((xs.take k).map kindE)).app ⟨[], isKind xs[k]⟩).app ⟨[xs[k] % 256], true⟩ = (E.cat ((xs.take k).map kindE)).app (kindE xs[k]) := by
        simp [E.app, kindE]
      rwa [this] at hst4
  exact key xs.length 0 W F (by omega) (by omega) (by simpa [E.cat] using OutSt.start h)

/-! ### Steps of a walk -/
section
variable {W0 W : World} {q : Addr} {F0 F : Nat → Prop} {bs : List Int} {bad : Bool} {x : E}
/-- Numbers out of memory that the output doesn't hold. -/
theorem OutSt.nums (h : OutSt W0 q F0 bs bad x W F) {r : Rd} (hr : Rds r W F) {s : Sl} {ns : List Int} (hx : Ints r s ns) (hl : bs.length + x.b.length + 10 * ns.length ≤ big) (hn : ns.length ≤ 1099511627776) {K : Value → World → Prop}
    (hk : ∀ W' F', OutSt W0 q F0 bs bad (x.app (numsE ns)) W' F' → Mod F W W' → Grows F W F' → K (.tuple #[]) W') : CallV Tryd.prog f_encode_out_numbers #[.pointer (some q), s.v] W K :=
  h.step ent_encode_out_numbers (bs' := (numsE ns).b) (ok := (numsE ns).ok) (numbers_spec h.out hr hx (by rw [List.length_append]; omega) hn) hk
theorem OutSt.kinds (h : OutSt W0 q F0 bs bad x W F) {r : Rd} (hr : Rds r W F) {s : Sl} {ns : List Int} (hx : Ints r s ns) (hl : bs.length + x.b.length + ns.length ≤ big) (hn : ns.length ≤ 1099511627776) {K : Value → World → Prop}
    (hk : ∀ W' F', OutSt W0 q F0 bs bad (x.app (kindsE ns)) W' F' → Mod F W W' → Grows F W F' → K (.tuple #[]) W') : CallV Tryd.prog f_encode_out_kinds #[.pointer (some q), s.v] W K :=
  h.step ent_encode_out_kinds (bs' := (kindsE ns).b) (ok := (kindsE ns).ok) (kinds_spec h.out hr hx (by rw [List.length_append]; omega) hn) hk
theorem Mod.alloc_step {W1 W' : World} {F F' : Nat → Prop} (hm : Mod NoB W W1) (h2 : Mod F W1 W') (h3 : Grows F W1 F') : Mod F W W' ∧ Grows F W F' :=
  ⟨(Mod.of0 hm).transS h2, fun i hi => (h3 i hi).imp id (fun x => Nat.le_trans hm.size x)⟩
/-- One number. -/
theorem OutSt.num (h : OutSt W0 q F0 bs bad x W F) {n : Int} (hl : bs.length + x.b.length + 10 ≤ big) {K : Value → World → Prop}
    (hk : ∀ W' F', OutSt W0 q F0 bs bad (x.app (numE n)) W' F' → Mod F W W' → Grows F W F' → K (.tuple #[]) W') :
    Na W #[.int .i64 n] ty_int fun a W1 => CallV Tryd.prog f_encode_out_numbers #[.pointer (some q), .slice (some a) 1 1] W1 K := by
  refine Na.mk fun b W1 hb hm hs hc => ?_
  have hst := h.mod0 hm
  have hnb : ¬ F b := fun hF => by have := h.out.lt hF; omega
  have hx : Ints (offS W1 F) ⟨some ⟨b, 0, none⟩, 1, 1⟩ [n] := by
    refine ⟨rfl, fun i y hy => ?_⟩
    cases i with
    | zero => simp at hy; subst hy; exact ⟨_, rfl, offS_of (cell_of_heap hc rfl) hnb⟩
    | succ i => simp at hy
  have e : numsE [n] = numE n := by simp [numsE, E.cat, E.app_nil]
  refine hst.nums (s := ⟨some ⟨b, 0, none⟩, 1, 1⟩) (Rds.all W1 F) hx (by simpa using hl) (by simp) (fun W' F' h1 h2 h3 => ?_)
  obtain ⟨g1, g2⟩ := Mod.alloc_step hm h2 h3
  exact hk W' F' (e ▸ h1) g1 g2
/-- Two numbers. -/
theorem OutSt.num2 (h : OutSt W0 q F0 bs bad x W F) {n m : Int} (hl : bs.length + x.b.length + 20 ≤ big) {K : Value → World → Prop}
    (hk : ∀ W' F', OutSt W0 q F0 bs bad (x.app ((numE n).app (numE m))) W' F' → Mod F W W' → Grows F W F' → K (.tuple #[]) W') :
    Na W #[.int .i64 n, .int .i64 m] ty_int fun a W1 => CallV Tryd.prog f_encode_out_numbers #[.pointer (some q), .slice (some a) 2 2] W1 K := by
  refine Na.mk fun b W1 hb hm hs hc => ?_
  have hst := h.mod0 hm
  have hnb : ¬ F b := fun hF => by have := h.out.lt hF; omega
  have hx : Ints (offS W1 F) ⟨some ⟨b, 0, none⟩, 2, 2⟩ [n, m] := by
    refine ⟨rfl, fun i y hy => ?_⟩
    match i with
    | 0 => simp at hy; subst hy; exact ⟨_, rfl, offS_of (cell_of_heap hc rfl) hnb⟩
    | 1 => simp at hy; subst hy; exact ⟨_, rfl, offS_of (cell_of_heap hc rfl) hnb⟩
    | i + 2 => simp at hy
  have e : numsE [n, m] = (numE n).app (numE m) := by simp [numsE, E.cat, E.app_nil]
  refine hst.nums (s := ⟨some ⟨b, 0, none⟩, 2, 2⟩) (Rds.all W1 F) hx (by simpa using hl) (by simp) (fun W' F' h1 h2 h3 => ?_)
  obtain ⟨g1, g2⟩ := Mod.alloc_step hm h2 h3
  exact hk W' F' (e ▸ h1) g1 g2
end
end Go.Proofs.YtacjnpahlbibhaaDoor

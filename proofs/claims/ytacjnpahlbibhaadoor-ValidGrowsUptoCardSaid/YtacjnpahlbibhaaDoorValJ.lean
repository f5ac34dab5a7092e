import Derived.Test.YtacjnpahlbibhaaDoorValE
import Derived.Maps.OwnSet
import Derived.Maps.Views
import Derived.Carry
section
/- Contracts: slices.Grow, slices.Concat. -/
set_option linter.unusedVariables false
set_option linter.unusedSimpArgs false
set_option maxRecDepth 100000
namespace Go.Proofs.YtacjnpahlbibhaaDoor
open Go Go.RowKit

/-! ### Slices of structs -/
theorem flat_at {α : Type} {f : α → List Value} {n : Nat} (hn : 0 < n) (hf : ∀ x, (f x).length = n) {xs : List α} {j : Nat} {u : Value} (h : (xs.flatMap f)[j]? = some u) :
    ∃ x, xs[j / n]? = some x ∧ (f x)[j % n]? = some u := by
  have hlen : (xs.flatMap f).length = xs.length * n := by
    clear h
    induction xs with
    | nil => simp
    | cons a r ih => rw [List.flatMap_cons, List.length_append, ih, hf, List.length_cons, Nat.succ_mul]; omega
  have hj : j < xs.length * n := by
    rw [← hlen]
    rcases Nat.lt_or_ge j (xs.flatMap f).length with h' | h'
    · exact h'
    · rw [List.getElem?_eq_none h'] at h; cases h
  have hi : j / n < xs.length := (Nat.div_lt_iff_lt_mul hn).2 hj
  refine ⟨xs[j / n], List.getElem?_eq_getElem hi, ?_⟩
  have := flatMap_at hf (List.getElem?_eq_getElem hi) (Nat.mod_lt j hn)
  rw [show j / n * n + j % n = j from Nat.div_add_mod' j n, h] at this
  exact this.symm
theorem flat_len {α : Type} {f : α → List Value} {n : Nat} (hf : ∀ x, (f x).length = n) (xs : List α) : (xs.flatMap f).length = xs.length * n := by
  induction xs with
  | nil => simp
  | cons a r ih => rw [List.flatMap_cons, List.length_append, ih, hf, List.length_cons, Nat.succ_mul]; omega
theorem flat_src {P : Program} {α : Type} {sz : Nat} (hsz : 0 < sz) {f : α → List Value} (hf : ∀ x, (f x).length = sz) (h1 : ∀ x, ∀ u ∈ f x, u.oneCell' = true) {R : Rd → Addr → α → Prop} {r : Rd} {W : World} (hr : Sub r W)
    (hR : ∀ q x, R r q x → ∀ j v, (f x)[j]? = some v → r (q.add j) = some v) {s : Sl} {xs : List α} (h : SlOf sz R r s xs) {tx e' : TypeId} (hu : P.underlying tx = some (.slice e')) :
    Src P sz tx s.v xs.length (xs.flatMap f) W := by
  have hl := h.1
  rw [← hl]
  refine Src.read hu (by rw [flat_len hf, hl]) (fun j u hx => ?_) (fun u hu => by obtain ⟨x, _, hx⟩ := List.mem_flatMap.1 hu; exact h1 x u hx)
  obtain ⟨x, hx1, hx2⟩ := flat_at hsz hf hx
  obtain ⟨q, hq, hc⟩ := h.2 _ _ hx1
  refine ⟨q, hq, hr _ _ ?_⟩
  have := hR _ _ hc _ _ hx2
  rw [add_add, Nat.div_add_mod'] at this
  exact this
/-- An owned slice, as it reads. -/
theorem Own.read {α : Type} {sz : Nat} (hsz : 0 < sz) {f : α → List Value} (hf : ∀ x, (f x).length = sz) {R : Rd → Addr → α → Prop} {r : Rd} {w : World} {e : TypeId} {s : Sl} {xs : List α} (h : Own w e sz s (xs.flatMap f))
    (hR : ∀ q x, x ∈ xs → (∀ j v, (f x)[j]? = some v → w.cell? (q.add j) = some v) → R r q x) : SlOf sz R r s xs := by
  refine ⟨?_, fun i x hx => ?_⟩
  · have := h.1
    rw [flat_len hf] at this
    exact (Nat.eq_of_mul_eq_mul_right hsz this).symm
  · have hlt : i < xs.length := by
      rcases Nat.lt_or_ge i xs.length with h' | h'
      · exact h'
      · rw [List.getElem?_eq_none h'] at hx; cases hx
    have hm : x ∈ xs := List.mem_of_getElem? hx
    have h0 : 0 < (f x).length := by rw [hf]; exact hsz
    have c0 := flatMap_at hf hx (j := 0) hsz
    obtain ⟨q, hq, _⟩ := h.cell (i := i * sz + 0) (v := (f x)[0]) (by rw [c0]; exact List.getElem?_eq_getElem h0)
    refine ⟨q, hq, hR _ _ hm (fun j v hv => ?_)⟩
    have hj : j < sz := by
      rcases Nat.lt_or_ge j sz with h' | h'
      · exact h'
      · rw [List.getElem?_eq_none (by rw [hf]; exact h')] at hv; cases hv
    obtain ⟨q', hq', hc⟩ := h.cell (i := i * sz + j) (v := v) (by rw [flatMap_at hf hx hj]; exact hv)
    rw [hq] at hq'; cases hq'
    rw [add_add]; exact hc

/-! ### append of zeros -/
theorem run_append_zeros {P : Program} (w : World) (t tx ty e : TypeId) (i : TypeInfo) (z : Value) (ht : P.underlying t = some (.slice e)) (htx : P.underlying tx = some (.int .i64)) (hi : P.info? e = some i) (hz : i.zero = some z)
    (n c : Nat) (hn : 0 < n) (hsz : 0 < i.size) (h63 : (n : Int) ≤ 9223372036854775807) (hb : n * i.bytes ≤ 140737488355328) (hc : c < n) :
    (Builtin.append_ #[t, tx] ty #[.slice none 0 c, .int .i64 n]).run P w =
      .ok (.slice (some ⟨w.heap.size, 0, none⟩) n (grownCap w n c e)) (w.drew.alloc (.cells (Builtin.zeroCells z.cells n ++ Builtin.zeroCells z.cells (grownCap w n c e - n)) e)) := by
  have hfit : Builtin.nextslicecap n c * i.bytes ≤ 281474976710656 := growslice_fits hc hb
  have hw : IntKind.wrap .i64 (n : Int) = n := wrap_id (by omega) (by omega)
  have hb' : (n : Int) * (i.bytes : Int) ≤ 140737488355328 := by have h := Int.natCast_mul n i.bytes; omega
  have h1 : ¬ ((n : Int) < 0) := by omega
  have h2 : ¬ ((n : Int) * (i.bytes : Int) > 281474976710656) := by omega
  have h3 : ¬ (n * i.size = 0) := by have := Nat.mul_pos hn hsz; omega
  have h4 : ¬ (n ≤ c) := by omega
  have h5 : ¬ (9223372036854775807 < (n : Int)) := by omega
  have h6 : ¬ (281474976710656 < Builtin.nextslicecap n c * i.bytes) := by omega
  have h7 : ¬ (n = 0 ∨ i.size = 0) := by omega
  have h8 : ¬ (281474976710656 < (n : Int) * (i.bytes : Int)) := by omega
  simp [Builtin.append_, run_underlying ht, run_underlying htx, sizeOf, typeInfo, zeroValue, hi, hz, asInt, asIntOf, hw, h1, h4, h5, h6, h7, h8, Question.forced, newRow, grownCap, Builtin.firstCells]
  exact fun h => absurd h h3

theorem run_cap {P : Program} {t e ty : TypeId} (ht : P.underlying t = some (.slice e)) (s : Sl) (w : World) : (Builtin.cap_ #[t] ty #[s.v]).run P w = .ok (.int .i64 s.cap) w := by
  simp [Builtin.cap_, run_underlying ht, goInt]
theorem size_zeros (z : Array Value) (n : Nat) : (Builtin.zeroCells z n).size = n * z.size := by simp [Builtin.zeroCells]
/-- What Grow makes of nothing: room in memory of its own. -/
theorem grow_room {P : Program} {W : World} {t tx ty e : TypeId} {z : Value} {sz bytes : Nat} (hf : TyFacts P t e z sz bytes) (hzc : z.cells.size = sz) (hsz : 0 < sz) (htx : P.underlying tx = some (.int .i64)) {n c : Nat} (hn : 0 < n) (hc : c < n)
    (hb : n * bytes ≤ 140737488355328) (hl : n ≤ maxLen) {K : Value → World → Prop}
    (hk : ∀ (s : Sl) W', Own W' e sz ⟨s.a, 0, s.cap⟩ [] → Mod NoB W W' → (∀ b, s.isB b → W.heap.size ≤ b) → K s.v W') : RunV P (Builtin.append_ #[t, tx] ty #[.slice none 0 c, .int .i64 n]) W K := by
  obtain ⟨i, hi, hz, hisz, hby⟩ := hf.info
  have hrun := run_append_zeros W t tx ty e i z hf.und htx hi hz n c hn (by omega) (by unfold maxLen at hl; omega) (by rw [hby]; exact hb) hc
  unfold RunV
  rw [hrun]
  have hge := grownCap_ge W n c e
  have hcm := grownCap_le_maxLen W n c e hl
  refine hk ⟨some ⟨W.heap.size, 0, none⟩, n, grownCap W n c e⟩ _ ⟨by simp, .inr ⟨W.heap.size, _, (0, 0), rfl, (by show (W.heap.push _)[W.heap.size]? = _; simp; rfl), .inl rfl, Nat.zero_le _, hcm, ?_, by simp⟩⟩ ((Mod.drew _ W).transS (Mod.alloc _ _ _)) ?_
  · rw [Array.size_append, size_zeros, size_zeros, hzc, ← Nat.add_mul]; show (n + (grownCap W n c e - n)) * sz = grownCap W n c e * sz; congr 1; omega
  · rintro b ⟨q, hq, rfl⟩; cases hq; exact Nat.le_refl _
theorem Grow_int_spec {W : World} {n : Nat} (hn : n ≤ big) : Calls Tryd.prog f_slices_Grow_int #[(⟨none, 0, 0⟩ : Sl).v, .int .i64 n] W fun e W' => ∃ t : Sl, e = .returned t.v ∧ Nint W W' t [] := by
  refine of_slices_Grow_int _ _ _ _ ?_
  unfold V_slices_Grow_int
  unfold big at hn
  intro J hJ
  refine Br.dec (fun h => by omega) (fun _ => hJ _ ?_)
  have w0 : IntKind.wrap .i64 ((n : Int) - (IntKind.wrap .i64 ((0 : Int) - ((0 : Nat) : Int)))) = n := by rw [wrap_id (x := (0 : Int) - ((0 : Nat) : Int)) (by omega) (by omega), wrap_id (by omega) (by omega)]; omega
  unfold RunV
  rw [run_cap tyf_sl_int.und]
  refine ⟨0, rfl, ?_⟩
  rw [w0]
  refine Br.dec (fun hpos => ?_) (fun hz => ⟨⟨none, 0, 0⟩, rfl, nint_nil (Mod.refl _ _)⟩)
  rw [run_cap tyf_sl_int.und]
  refine ⟨0, rfl, ⟨by simp, by simp⟩, ?_⟩
  refine grow_room tyf_sl_int rfl (by omega) (by kernel_rfl) (by omega) (by show 0 - 0 < n; omega) (by omega) (by unfold maxLen; omega) (fun s W' ho hm hb => ⟨s, rfl, ⟨by simp, by simp⟩, ⟨s.a, 0, s.cap⟩, ?_, ho, hm, hb⟩)
  rw [resl]; rfl
theorem Grow_Limits_spec {W : World} {n : Nat} (hn : n ≤ big) : Calls Tryd.prog f_slices_Grow_Limits #[(⟨none, 0, 0⟩ : Sl).v, .int .i64 n] W fun e W' => ∃ t : Sl, e = .returned t.v ∧ Own W' ty_Limits 2 t [] ∧ Mod NoB W W' ∧ (∀ b, t.isB b → W.heap.size ≤ b) := by
  refine of_slices_Grow_Limits _ _ _ _ ?_
  unfold V_slices_Grow_Limits
  unfold big at hn
  intro J hJ
  refine Br.dec (fun h => by omega) (fun _ => hJ _ ?_)
  have w0 : IntKind.wrap .i64 ((n : Int) - (IntKind.wrap .i64 ((0 : Int) - ((0 : Nat) : Int)))) = n := by rw [wrap_id (x := (0 : Int) - ((0 : Nat) : Int)) (by omega) (by omega), wrap_id (by omega) (by omega)]; omega
  unfold RunV
  rw [run_cap tyf_sl_Limits.und]
  refine ⟨0, rfl, ?_⟩
  rw [w0]
  refine Br.dec (fun hpos => ?_) (fun hz => ⟨⟨none, 0, 0⟩, rfl, Own.nil _ _ _, Mod.refl _ _, fun b hb => absurd hb (nil_notB b)⟩)
  rw [run_cap tyf_sl_Limits.und]
  refine ⟨0, rfl, ⟨by simp, by simp⟩, ?_⟩
  refine grow_room tyf_sl_Limits rfl (by omega) (by kernel_rfl) (by omega) (by show 0 - 0 < n; omega) (by omega) (by unfold maxLen; omega) (fun s W' ho hm hb => ⟨s, rfl, ⟨by simp, by simp⟩, ⟨s.a, 0, s.cap⟩, ?_, ho, hm, hb⟩)
  rw [resl]; rfl
end Go.Proofs.YtacjnpahlbibhaaDoor
end
section
/- Contracts: slices.Concat. -/
set_option linter.unusedVariables false
set_option linter.unusedSimpArgs false
set_option maxRecDepth 100000
namespace Go.Proofs.YtacjnpahlbibhaaDoor
open Go Go.RowKit

/-- A slice that stands in a cell. -/
def SlAt {α : Type} (sz : Nat) (R : Rd → Addr → α → Prop) (r : Rd) (q : Addr) (xs : List α) : Prop := ∃ t : Sl, r q = some t.v ∧ SlOf sz R r t xs
theorem flat_take_len {α : Type} (xss : List (List α)) {k : Nat} (h : k < xss.length) : (xss.take (k + 1)).flatten.length = (xss.take k).flatten.length + xss[k].length := by
  rw [List.take_succ_eq_append_getElem h, List.flatten_append, List.length_append]; simp
theorem flat_take_le {α : Type} (xss : List (List α)) (k : Nat) : (xss.take k).flatten.length ≤ xss.flatten.length := by
  have : xss.flatten = (xss.take k).flatten ++ (xss.drop k).flatten := by rw [← List.flatten_append, List.take_append_drop]
  rw [this, List.length_append]; omega
theorem Concat_int_spec {W : World} {r : Rd} (hr : Sub r W) {s : Sl} {xss : List (List Int)} (hx : SlOf 1 (SlAt 1 (IntR .i64)) r s xss) (hl : xss.flatten.length ≤ big) (h2 : xss.length ≤ big) :
    Calls Tryd.prog f_slices_Concat_int #[s.v] W fun e W' => ∃ t : Sl, e = .returned t.v ∧ Nint W W' t xss.flatten := by
  refine of_slices_Concat_int _ _ _ ?_
  unfold V_slices_Concat_int
  unfold big at hl h2
  intro L hL
  have key : ∀ (n k : Nat), n = xss.length - k → k ≤ xss.length → L (((xss.take k).flatten.length : Nat) : Int) (k : Int) W := by
    intro n
    induction n with
    | zero =>
      intro k hn hk
      have hk : k = xss.length := by omega
      refine hL _ _ _ (Br.dec (fun h => by rw [hx.1] at h; omega) (fun _ => ?_))
      have hle := flat_take_le xss k
      refine CallV.mk ent_slices_Grow_int (Grow_int_spec (by unfold big; omega)) ?_
      rintro e W1 ⟨t, rfl, n1⟩
      refine ⟨_, rfl, t, rfl, ?_⟩
      intro L1 hL1
      have key2 : ∀ (n j : Nat) (t : Sl) (W1 : World), n = xss.length - j → j ≤ xss.length → Nint W W1 t (xss.take j).flatten → L1 t (j : Int) W1 := by
        intro n
        induction n with
        | zero =>
          intro j t W1 hn hj n1
          have hj : j = xss.length := by omega
          refine hL1 _ _ _ (Br.dec (fun h => by rw [hx.1] at h; omega) (fun _ => ⟨t, rfl, ?_⟩))
          rw [hj, List.take_length] at n1; exact n1
        | succ n ih =>
          intro j t W1 hn hj n1
          have hlt : j < xss.length := by omega
          refine hL1 _ _ _ (Br.dec (fun _ => ?_) (fun hge => absurd (by rw [hx.1]; omega) hge))
          obtain ⟨q, hq, u, hu, hi⟩ := hx.get hlt
          refine ⟨q, ⟨hq, by omega, by rw [hx.1]; omega⟩, u, (hr.mod0 n1.mod) _ _ hu, ?_⟩
          have hfl := flat_take_len xss hlt
          have hfle := flat_take_le xss (j + 1)
          refine n1.app (Ints.src hi (hr.mod0 n1.mod)) (by unfold big; omega) (fun s' W' n2 m2 g2 => ⟨s', rfl, ?_⟩)
          rw [wrap_id (by omega) (by omega)]
          refine ih (j + 1) s' W' (by omega) hlt ?_
          rw [List.take_succ_eq_append_getElem hlt, List.flatten_append]
          simpa using n2
      exact key2 xss.length 0 t W1 (by omega) (by omega) (by simpa using n1)
    | succ n ih =>
      intro k hn hk
      have hlt : k < xss.length := by omega
      refine hL _ _ _ (Br.dec (fun _ => ?_) (fun hge => absurd (by rw [hx.1]; omega) hge))
      obtain ⟨q, hq, u, hu, hi⟩ := hx.get hlt
      refine ⟨q, ⟨hq, by omega, by rw [hx.1]; omega⟩, u, hr _ _ hu, ?_⟩
      have hfl := flat_take_len xss hlt
      have hfle := flat_take_le xss (k + 1)
      have hu1 := hi.1
      have w0 : IntKind.wrap .i64 ((((xss.take k).flatten.length : Nat) : Int) + (u.len : Int)) = (((xss.take (k + 1)).flatten.length : Nat) : Int) := by rw [wrap_id (by omega) (by omega)]; omega
      rw [w0]
      refine Br.dec (fun h => by omega) (fun _ => ?_)
      rw [wrap_id (by omega) (by omega)]
      exact ih (k + 1) (by omega) hlt
  exact key xss.length 0 (by omega) (by omega)
def lv (x : Limits) : List Value := [.int .i64 x.min, .int .i64 x.max]
theorem lv_len (x : Limits) : (lv x).length = 2 := rfl
theorem LimitsR.cells {r : Rd} {q : Addr} {x : Limits} (h : LimitsR r q x) : ∀ j v, (lv x)[j]? = some v → r (q.add j) = some v := by
  intro j v hv
  match j, hv with
  | 0, hv => simp [lv] at hv; subst hv; exact h.1
  | 1, hv => simp [lv] at hv; subst hv; exact h.2
  | j + 2, hv => simp [lv] at hv
theorem Concat_Limits_spec {W : World} {r : Rd} (hr : Sub r W) {s : Sl} {xss : List (List Limits)} (hx : SlOf 1 (SlAt 2 LimitsR) r s xss) (hl : xss.flatten.length ≤ big) (h2 : xss.length ≤ big) :
    Calls Tryd.prog f_slices_Concat_Limits #[s.v] W fun e W' => ∃ t : Sl, e = .returned t.v ∧ SlOf 2 LimitsR W'.cell? t xss.flatten ∧ Mod NoB W W' := by
  refine of_slices_Concat_Limits _ _ _ ?_
  unfold V_slices_Concat_Limits
  unfold big at hl h2
  intro L hL
  have key : ∀ (n k : Nat), n = xss.length - k → k ≤ xss.length → L (((xss.take k).flatten.length : Nat) : Int) (k : Int) W := by
    intro n
    induction n with
    | zero =>
      intro k hn hk
      have hk : k = xss.length := by omega
      refine hL _ _ _ (Br.dec (fun h => by rw [hx.1] at h; omega) (fun _ => ?_))
      have hle := flat_take_le xss k
      refine CallV.mk ent_slices_Grow_Limits (Grow_Limits_spec (by unfold big; omega)) ?_
      rintro e W1 ⟨t, rfl, n1, hm1, hb1⟩
      refine ⟨_, rfl, t, rfl, ?_⟩
      intro L1 hL1
      have key2 : ∀ (n j : Nat) (t : Sl) (W1 : World), n = xss.length - j → j ≤ xss.length → Own W1 ty_Limits 2 t ((xss.take j).flatten.flatMap lv) → Mod NoB W W1 → (∀ b, t.isB b → W.heap.size ≤ b) → L1 t (j : Int) W1 := by
        intro n
        induction n with
        | zero =>
          intro j t W1 hn hj n1 hm1 hb1
          have hj : j = xss.length := by omega
          refine hL1 _ _ _ (Br.dec (fun h => by rw [hx.1] at h; omega) (fun _ => ⟨t, rfl, ?_, hm1⟩))
          rw [hj, List.take_length] at n1
          exact n1.read (by omega) lv_len (fun q x _ h => ⟨h 0 _ rfl, h 1 _ rfl⟩)
        | succ n ih =>
          intro j t W1 hn hj n1 hm1 hb1
          have hlt : j < xss.length := by omega
          refine hL1 _ _ _ (Br.dec (fun _ => ?_) (fun hge => absurd (by rw [hx.1]; omega) hge))
          obtain ⟨q, hq, u, hu, hi⟩ := hx.get hlt
          refine ⟨q, ⟨hq, by omega, by rw [hx.1]; omega⟩, u, (hr.mod0 hm1) _ _ hu, ?_⟩
          have hfl := flat_take_len xss hlt
          have hfle := flat_take_le xss (j + 1)
          have hu1 := hi.1
          have ht1 : t.len = (xss.take j).flatten.length := by have := n1.1; rw [flat_len lv_len] at this; omega
          have hsrc := flat_src (P := Tryd.prog) (by omega) lv_len (by intro x u hu; simp [lv] at hu; rcases hu with rfl | rfl <;> rfl) (hr.mod0 hm1) (fun q x h => LimitsR.cells h) hi (tx := ty_sl_Limits) tyf_sl_Limits.und
          refine tyf_sl_Limits.append rfl n1 hsrc (by omega) (by unfold maxLen; omega) (fun s' W' o2 hs2 m2 g2 => ⟨s', rfl, ?_⟩)
          rw [wrap_id (by omega) (by omega)]
          refine ih (j + 1) s' W' (by omega) hlt ?_ (hm1.trans m2 (fun i hi hs => by have := hb1 i hs; omega)) (fun b hb => ?_)
          · rw [List.take_succ_eq_append_getElem hlt, List.flatten_append, List.flatMap_append]
            simpa using o2
          · have := hm1.size
            rcases g2 b hb with h | h
            · exact hb1 b h
            · omega
      exact key2 xss.length 0 t W1 (by omega) (by omega) (by simpa using n1) hm1 hb1
    | succ n ih =>
      intro k hn hk
      have hlt : k < xss.length := by omega
      refine hL _ _ _ (Br.dec (fun _ => ?_) (fun hge => absurd (by rw [hx.1]; omega) hge))
      obtain ⟨q, hq, u, hu, hi⟩ := hx.get hlt
      refine ⟨q, ⟨hq, by omega, by rw [hx.1]; omega⟩, u, hr _ _ hu, ?_⟩
      have hfl := flat_take_len xss hlt
      have hfle := flat_take_le xss (k + 1)
      have hu1 := hi.1
      have w0 : IntKind.wrap .i64 ((((xss.take k).flatten.length : Nat) : Int) + (u.len : Int)) = (((xss.take (k + 1)).flatten.length : Nat) : Int) := by rw [wrap_id (by omega) (by omega)]; omega
      rw [w0]
      refine Br.dec (fun h => by omega) (fun _ => ?_)
      rw [wrap_id (by omega) (by omega)]
      exact ih (k + 1) (by omega) hlt
  exact key xss.length 0 (by omega) (by omega)
end Go.Proofs.YtacjnpahlbibhaaDoor
end
section
/- Contracts: valid.segments. -/
set_option linter.unusedVariables false
set_option linter.unusedSimpArgs false
set_option maxRecDepth 100000
namespace Go.Proofs.YtacjnpahlbibhaaDoor
open Go Go.RowKit

theorem all_take {α : Type} (p : α → Bool) {l : List α} {k : Nat} (h : k < l.length) : (l.take (k + 1)).all p = ((l.take k).all p && p l[k]) := by
  rw [List.take_succ_eq_append_getElem h, List.all_append]; simp
theorem all_bad {α : Type} {p : α → Bool} {l : List α} {k : Nat} (h : k < l.length) (hp : p l[k] = false) : l.all p = false := by
  rw [List.all_eq_false]; exact ⟨l[k], List.getElem_mem h, by rw [hp]; simp⟩
def elemOk (m : Module) (funcs : Int) (x : Elem) : Bool := (decide (m.tables.length ≠ 0) && constOk x.offset 127) && x.funcs.all (fun f => decide (f < funcs))
def dataOk (m : Module) (x : Data) : Bool := decide (m.mems.length ≠ 0) && constOk x.offset 127
def segOk (m : Module) (funcs : Int) : Bool := m.elems.all (elemOk m funcs) && m.datas.all (dataOk m)
theorem segments_spec {W : World} {r : Rd} (hr : Sub r W) {S : MSl} {m : Module} (hm : ModR r S m) (hw : ModW m) (funcs : Int) :
    Calls Tryd.prog f_valid_segments #[ModV S m, .int .i64 funcs] W fun e W' => e = .returned (.bool (segOk m funcs)) ∧ Mod NoB W W' := by
  have we := hw.elems
  have wd := hw.datas
  refine of_valid_segments _ _ _ _ _ _ _ _ _ _ _ _ _ _ ?_
  unfold V_valid_segments
  refine Na.mk fun b2 W1 hb2 hm1 hs1 hc1 => ?_
  have lt2 := heap_lt hc1
  refine ⟨S.elems, cell_of_heap hc1 rfl, ?_⟩
  intro L hL
  have key : ∀ (n k : Nat) (W3 : World), n = m.elems.length - k → k ≤ m.elems.length → (m.elems.take k).all (elemOk m funcs) = true → Mod NoB W1 W3 → L (k : Int) W3 := by
    intro n
    induction n with
    | zero =>
      intro k W3 hn hk hp hm3
      have hk : k = m.elems.length := by omega
      rw [hk, List.take_length] at hp
      refine hL _ _ (Br.dec (fun h => by rw [hm.elems.1] at h; omega) (fun _ => ?_))
      have hall := hp
      have hm2 := hm3
      obtain ⟨W2, rfl⟩ : ∃ W2, W2 = W3 := ⟨_, rfl⟩
      have h2 := hm2.heap hc1 (fun h => h)
      refine ⟨S.datas, cell_of_heap h2 rfl, ?_⟩
      intro L2 hL2
      have key : ∀ (n k : Nat) (W3 : World), n = m.datas.length - k → k ≤ m.datas.length → (m.datas.take k).all (dataOk m) = true → Mod NoB W1 W3 → L2 (k : Int) W3 := by
        intro n
        induction n with
        | zero =>
          intro k W3 hn hk hp hm3
          have hk : k = m.datas.length := by omega
          refine hL2 _ _ (Br.dec (fun h => by rw [hm.datas.1] at h; omega) (fun _ => ⟨?_, hm1.trans0 hm3⟩))
          rw [hk, List.take_length] at hp
          unfold segOk; rw [hall, hp]; rfl
        | succ n ih =>
          intro k W3 hn hk hp hm3
          have hlt : k < m.datas.length := by omega
          refine hL2 _ _ (Br.dec (fun _ => ?_) (fun hge => absurd (by rw [hm.datas.1]; omega) hge))
          obtain ⟨q, hq, s0, s1, c0, c1, i0, i1⟩ := hm.datas.get hlt
          have hs3 := (hr.mod0 hm1).mod0 hm3
          refine ⟨q, ⟨hq, by omega, by rw [hm.datas.1]; omega⟩, s0, hs3 _ _ c0, s1, hs3 _ _ c1, ?_⟩
          refine Na.mk fun b4 W4 hb4 hm4 hs4 hc4 => ?_
          have lt4 := heap_lt hc4
          refine stC_at (b := b4) (o := 0) rfl hc4 (by simp) (by simp [Value.oneCell', Sl.v]) (fun W5 h5 m5 sz5 => ?_)
          rw [setL_all (by simp)] at h5
          have hm35 : Mod NoB W3 W5 := hm4.trans m5 (fun i hi e => by omega)
          have hm15 := hm3.trans0 hm35
          have h15 := hm15.heap hc1 (fun h => h)
          intro J hJ
          refine ⟨S.mems, cell_of_heap h15 rfl, s0, fun _ => cell_of_heap h5 rfl, fun hne => ?_, fun he => hJ _ _ (Br.t ⟨?_, hm1.trans0 hm15⟩)⟩
          · rw [hm.mems.1] at hne
            refine CallV.mk ent_valid_constant (constant_ok ((hr.mod0 hm1).mod0 hm15) i0 127) ?_
            rintro e W6 ⟨rfl, rfl⟩
            refine ⟨_, rfl, _, rfl, hJ _ _ (Br.mk (fun hb => ⟨?_, hm1.trans0 hm15⟩) (fun hb => ?_))⟩
            · have : constOk m.datas[k].offset 127 = false := by simpa using hb
              have : segOk m funcs = false := by unfold segOk; rw [all_bad hlt (by unfold dataOk; rw [this, Bool.and_false]), Bool.and_false]
              rw [this]
            · have hc : constOk m.datas[k].offset 127 = true := by simpa using hb
              have hl := hm.datas.1
              rw [wrap_id (by omega) (by omega)]
              refine ih (k + 1) _ (by omega) hlt ?_ hm15
              rw [all_take _ hlt, hp, Bool.true_and]
              unfold dataOk
              rw [hc, Bool.and_true, decide_eq_true_eq]
              intro h0; rw [h0] at hne; simp at hne
          · rw [hm.mems.1] at he
            have h0 : m.mems.length = 0 := by simpa using he
            have : segOk m funcs = false := by unfold segOk; rw [all_bad hlt (by unfold dataOk; rw [h0]; rfl), Bool.and_false]
            rw [this]
      exact key m.datas.length 0 W2 (by omega) (by omega) rfl hm2
    | succ n ih =>
      intro k W3 hn hk hp hm3
      have hlt : k < m.elems.length := by omega
      refine hL _ _ (Br.dec (fun _ => ?_) (fun hge => absurd (by rw [hm.elems.1]; omega) hge))
      obtain ⟨q, hq, s0, s1, c0, c1, i0, i1, wf⟩ := hm.elems.get hlt
      have hs3 := (hr.mod0 hm1).mod0 hm3
      refine ⟨q, ⟨hq, by omega, by rw [hm.elems.1]; omega⟩, s0, hs3 _ _ c0, s1, hs3 _ _ c1, ?_⟩
      refine Na.mk fun b4 W4 hb4 hm4 hs4 hc4 => ?_
      have lt4 := heap_lt hc4
      refine stC_at (b := b4) (o := 0) rfl hc4 (by simp) (by simp [Value.oneCell', Sl.v]) (fun W5 h5 m5 sz5 => ?_)
      rw [setL_all (by simp)] at h5
      have hm35 : Mod NoB W3 W5 := hm4.trans m5 (fun i hi e => by omega)
      have hm15 := hm3.trans0 hm35
      have h15 := hm15.heap hc1 (fun h => h)
      have bad : elemOk m funcs m.elems[k] = false → segOk m funcs = false := fun h => by unfold segOk; rw [all_bad hlt h, Bool.false_and]
      intro J hJ J1 hJ1
      refine ⟨S.tables, cell_of_heap h15 rfl, s0, fun _ => cell_of_heap h5 rfl, fun hne => ?_, fun he => hJ1 _ _ (Br.t ⟨?_, hm1.trans0 hm15⟩)⟩
      · rw [hm.tables.1] at hne
        have hne : m.tables.length ≠ 0 := fun h0 => by rw [h0] at hne; simp at hne
        refine CallV.mk ent_valid_constant (constant_ok ((hr.mod0 hm1).mod0 hm15) i0 127) ?_
        rintro e W6 ⟨rfl, rfl⟩
        refine ⟨_, rfl, _, rfl, hJ1 _ _ (Br.mk (fun hb => ⟨?_, hm1.trans0 hm15⟩) (fun hb => ?_))⟩
        · have : constOk m.elems[k].offset 127 = false := by simpa using hb
          rw [bad (by unfold elemOk; rw [this, Bool.and_false, Bool.false_and])]
        · have hc : constOk m.elems[k].offset 127 = true := by simpa using hb
          refine hJ _ ⟨s1, cell_of_heap h5 rfl, ?_⟩
          intro L1 hL1
          have inner : ∀ (n j : Nat), n = m.elems[k].funcs.length - j → j ≤ m.elems[k].funcs.length → (m.elems[k].funcs.take j).all (fun f => decide (f < funcs)) = true → L1 (j : Int) W6 := by
            intro n
            induction n with
            | zero =>
              intro j hn hj hpj
              have hj : j = m.elems[k].funcs.length := by omega
              rw [hj, List.take_length] at hpj
              have hl := hm.elems.1
              refine hL1 _ _ (Br.dec (fun h => by rw [i1.1] at h; omega) (fun _ => ?_))
              rw [wrap_id (by omega) (by omega)]
              refine ih (k + 1) _ (by omega) hlt ?_ hm15
              rw [all_take _ hlt, hp, Bool.true_and]
              unfold elemOk
              rw [hpj, hc, decide_eq_true hne]; rfl
            | succ n ihj =>
              intro j hn hj hpj
              have hltj : j < m.elems[k].funcs.length := by omega
              obtain ⟨p, hpp, hcp⟩ := i1.get hltj
              refine hL1 _ _ (Br.dec (fun _ => ?_) (fun hge => absurd (by rw [i1.1]; omega) hge))
              refine ⟨p, ⟨hpp, by omega, by rw [i1.1]; omega⟩, _, ((hr.mod0 hm1).mod0 hm15) _ _ hcp, Br.dec (fun hge => ⟨?_, hm1.trans0 hm15⟩) (fun hlt2 => ?_)⟩
              · rw [bad (by unfold elemOk; rw [all_bad hltj (decide_eq_false (by omega)), Bool.and_false])]
              · rw [wrap_id (by omega) (by omega)]
                refine ihj (j + 1) (by omega) hltj ?_
                rw [all_take _ hltj, hpj, Bool.true_and, decide_eq_true]
                omega
          exact inner _ 0 rfl (by omega) rfl
      · rw [hm.tables.1] at he
        have h0 : m.tables.length = 0 := by simpa using he
        rw [bad (by unfold elemOk; rw [h0]; rfl)]
  exact key m.elems.length 0 W1 (by omega) (by omega) rfl (Mod.refl _ _)
end Go.Proofs.YtacjnpahlbibhaaDoor
end
section
/- Contracts: valid.names. -/
set_option linter.unusedVariables false
set_option linter.unusedSimpArgs false
set_option maxRecDepth 100000
namespace Go.Proofs.YtacjnpahlbibhaaDoor
open Go Go.RowKit

/-! ### A map of names to numbers -/
/-- Block 'b' is a map; each name has a number that is at least 0, and greater just if the name is among 'seen'. -/
def NameMap (w : World) (b n : Nat) (seen : List ByteArray) : Prop :=
  ∃ D : DataW Unit, w.ownsMap Tryd.prog 9 (plainElem Tryd.prog 3) b n D ∧ ∀ s : ByteArray, ∃ c : Int, D.atKey (.string s.data.toList) (.lit (.int .i64 0)) = .lit (.int .i64 c) ∧ (c > 0 ↔ s ∈ seen)
theorem und_map : Program.underlying Tryd.prog 127 = some (.map 9 3) := by kernel_rfl
theorem und_9 : Program.underlying Tryd.prog 9 = some .string := by kernel_rfl
theorem und_3 : Program.underlying Tryd.prog 3 = some (.int .i64) := by kernel_rfl
theorem zero_3 (w : World) : (zeroValue 3).run Tryd.prog w = .ok (.int .i64 0) w := by kernel_rfl
theorem Mod.grown {w w' : World} {b : Nat} (h : w.grownBy w' (some b)) : Mod (fun k => k = b) w w' :=
  ⟨h.os, h.tape, h.output, h.size, fun k hk hn => h.block k hk (fun e => hn (Option.some.inj e))⟩
theorem NameMap.mod {w w' : World} {b n : Nat} {seen : List ByteArray} {S : Nat → Prop} (h : NameMap w b n seen) (m : Mod S w w') (hn : ¬ S b) : NameMap w' b n seen := by
  obtain ⟨D, ⟨es, clock, hb, r⟩, hD⟩ := h
  exact ⟨D, ⟨es, clock, m.heap hb hn, r⟩, hD⟩
theorem NameMap.lt {w : World} {b n : Nat} {seen : List ByteArray} (h : NameMap w b n seen) : b < w.heap.size := by
  obtain ⟨D, h, _⟩ := h; exact h.lt
theorem name_make {W : World} {K : Value → World → Prop} (hk : ∀ W', NameMap W' W.heap.size 0 [] → Mod NoB W W' → K (.map (some W.heap.size)) W') : RunV Tryd.prog (Instr.makeMap 127 none) W K := by
  unfold RunV
  rw [run_makeMap]
  exact hk _ ⟨.map [], World.ownsMap_made _ _ _ _, fun s => ⟨0, rfl, by simp⟩⟩ (Mod.alloc _ _ _)
theorem name_look {W : World} {b n : Nat} {seen : List ByteArray} (h : NameMap W b n seen) {s : ByteArray} (hs : s.size ≤ maxLen) {K : Value → World → Prop} (hk : ∀ c : Int, (c > 0 ↔ s ∈ seen) → K (.int .i64 c) W) :
    RunV Tryd.prog (Instr.lookup 127 (.map (some b)) (.string s) false) W K := by
  obtain ⟨D, hD, hs'⟩ := h
  obtain ⟨c, hrun, hat, _⟩ := hD.lookup_int (Maps.string_keyed und_9) und_map und_3 (zero_3 W) (WideMaps.keyOf_string_mk und_9 hs)
  unfold RunV
  rw [hrun]
  obtain ⟨c', h1, h2⟩ := hs' s
  rw [hat] at h1
  cases h1
  exact hk c h2
theorem name_put {W : World} {b n : Nat} {seen : List ByteArray} (h : NameMap W b n seen) {s : ByteArray} (hs : s.size ≤ maxLen) (hn : n < maxLen) {c : Int} (h0 : 0 < c) (h1 : c ≤ 9223372036854775807) {K : World → Prop} (hk : ∀ W', NameMap W' b (n + 1) (seen ++ [s]) → Mod (fun k => k = b) W W' → K W') :
    RunU Tryd.prog (Instr.mapUpdate 127 (.map (some b)) (.string s) (.int .i64 c)) W K := by
  obtain ⟨D, hD, hs'⟩ := h
  obtain ⟨W', hrun, hown, hg⟩ := hD.update (Maps.string_keyed und_9) und_map hn (WideMaps.keyOf_string_mk und_9 hs) (plainElem_int und_3 (a := c) (by simp [Lit.wf, IntKind.min, IntKind.max, IntKind.signed, IntKind.bits]; omega))
  unfold RunU
  rw [hrun]
  refine hk _ ⟨_, hown, fun t => ?_⟩ (Mod.grown hg)
  by_cases ht : t = s
  · subst ht
    exact ⟨c, Maps.atKey_put_same hD.isMap (by unfold WideAt.IsKeyLit; trivial) _ _, by simp; omega⟩
  · obtain ⟨c', h2, h3⟩ := hs' t
    have hne : (Lit.string t.data.toList) ≠ .string s.data.toList := fun e => ht ?_
    · exact ⟨c', by rw [Maps.atKey_put_other hne]; exact h2, by rw [h3]; simp [ht]⟩
    have e1 : t.data.toList = s.data.toList := by simpa using e
    have e2 : t.data = s.data := Array.toList_inj.1 e1
    cases t; cases s; simp at e2; rw [e2]
end Go.Proofs.YtacjnpahlbibhaaDoor
end
section
/- Contracts: valid.names. -/
set_option linter.unusedVariables false
set_option linter.unusedSimpArgs false
set_option maxRecDepth 100000
namespace Go.Proofs.YtacjnpahlbibhaaDoor
open Go Go.RowKit

def hasName (seen : List ByteArray) (s : ByteArray) : Bool := seen.any fun y => y.data.toList == s.data.toList
theorem hasName_iff {seen : List ByteArray} {s : ByteArray} : hasName seen s = true ↔ s ∈ seen := by
  unfold hasName
  rw [List.any_eq_true]
  constructor
  · rintro ⟨y, hy, he⟩
    have e1 : y.data.toList = s.data.toList := by simpa using he
    have e2 : y.data = s.data := Array.toList_inj.1 e1
    have : y = s := by cases y; cases s; simp at e2; rw [e2]
    exact this ▸ hy
  · intro h; exact ⟨s, h, by simp⟩
def cntOf (m : Module) (funcs : Int) (k : Int) : Int := if k = 0 then funcs else if k = 1 then m.tables.length else if k = 2 then m.mems.length else m.globals.length
def expGo (cnt : Int → Int) : List ByteArray → List Export → Bool
  | _, [] => true
  | seen, x :: r => if hasName seen x.name = true ∨ cnt x.kind ≤ x.index then false else expGo cnt (seen ++ [x.name]) r
def startOk (m : Module) : Bool :=
  if m.start = -1 then true else ((sigOf m m.start).2 && ((((sigOf m m.start).1.ins.length : Nat) : Int) == 0)) && ((((sigOf m m.start).1.outs.length : Nat) : Int) == 0)
def namesOk (m : Module) (funcs : Int) : Bool := expGo (cntOf m funcs) [] m.exports && startOk m
theorem ModR.tlen {r : Rd} {S : MSl} {m : Module} (hm : ModR r S m) : ∀ x ∈ m.types, x.ins.length ≤ big ∧ x.outs.length ≤ big := by
  intro x hx
  obtain ⟨i, hi, rfl⟩ := List.getElem_of_mem hx
  obtain ⟨q, _, _, _, _, _, _, _, h⟩ := hm.types.get hi
  exact h
theorem names_spec {W : World} {r : Rd} (hr : Sub r W) {S : MSl} {m : Module} (hm : ModR r S m) (hw : ModW m) (hk : ∀ x ∈ m.exports, 0 ≤ x.kind ∧ x.kind ≤ 3) (hst : m.start ≤ 9223372036854775807) (funcs : Int) :
    Calls Tryd.prog f_valid_names #[ModV S m, .int .i64 funcs] W fun e W' => e = .returned (.bool (namesOk m funcs)) ∧ Mod NoB W W' := by
  have we := hw.exports
  have hns : ∀ x ∈ m.exports, x.name.size ≤ maxLen := by
    intro x hx
    have h1 := msum_mem exportW hx
    have h2 := hw.room
    unfold exportW big at *
    unfold maxLen; omega
  refine of_valid_names _ _ _ _ _ _ _ _ _ _ _ _ _ _ ?_
  unfold V_valid_names
  refine Na.mk fun b2 W1 hb2 hm1 hs1 hc1 => ?_
  have lt2 := heap_lt hc1
  refine ⟨S.tables, cell_of_heap hc1 rfl, S.mems, cell_of_heap hc1 rfl, S.globals, cell_of_heap hc1 rfl, ?_⟩
  rw [hm.tables.1, hm.mems.1, hm.globals.1]
  refine Na.mk fun b5 W2 hb5 hm2 hs2 hc2 => ?_
  have lt5 := heap_lt hc2
  refine stC_at (b := b5) (o := 0) rfl hc2 (by simp) (by simp [Value.oneCell']) (fun W3 h5 m5 sz5 => ?_)
  rw [setL_all (by simp)] at h5
  have hm13 : Mod NoB W1 W3 := hm2.trans m5 (fun i hi e => by omega)
  have h23 := hm13.heap hc1 (fun h => h)
  refine name_make (fun W4 hnm4 hm4 => ⟨_, rfl, S.exports, cell_of_heap (hm4.heap h23 (fun h => h)) rfl, ?_⟩)
  obtain ⟨bm, hbm⟩ : ∃ bm, bm = W3.heap.size := ⟨_, rfl⟩
  rw [← hbm] at hnm4 ⊢
  intro L hL
  have key : ∀ (n k : Nat) (W5 : World), n = m.exports.length - k → k ≤ m.exports.length → expGo (cntOf m funcs) [] m.exports = expGo (cntOf m funcs) ((m.exports.take k).map (·.name)) (m.exports.drop k) → Mod NoB W3 W5 → NameMap W5 bm k ((m.exports.take k).map (·.name)) → L (k : Int) W5 := by
    intro n
    induction n with
    | zero =>
      intro k W5 hn hkl he hm35 hnm
      have hkl : k = m.exports.length := by omega
      rw [hkl, List.drop_length] at he
      have hex : expGo (cntOf m funcs) [] m.exports = true := by rw [he]; rfl
      have hm15 := hm13.trans0 hm35
      have h25 := hm35.heap h23 (fun h => h)
      refine hL _ _ (Br.dec (fun h => by rw [hm.exports.1] at h; omega) (fun _ => ⟨m.start, cell_of_heap h25 rfl, Br.eq (fun hs => ⟨?_, hm1.trans0 hm15⟩) (fun hs => ?_)⟩))
      · unfold namesOk startOk; rw [hex, if_pos hs]; rfl
      · refine ⟨S.types, cell_of_heap h25 rfl, S.imports, cell_of_heap h25 rfl, S.funcs, cell_of_heap h25 rfl, S.tables, cell_of_heap h25 rfl, S.mems, cell_of_heap h25 rfl, S.globals, cell_of_heap h25 rfl, S.exports, cell_of_heap h25 rfl, m.start, cell_of_heap h25 rfl, S.elems, cell_of_heap h25 rfl, S.codes, cell_of_heap h25 rfl, S.datas, cell_of_heap h25 rfl, m.start, cell_of_heap h25 rfl, ?_⟩
        refine CallV.mk ent_valid_Sig (Sig_spec ((hr.mod0 hm1).mod0 hm15) hm _ hst hm.tlen) ?_
        rintro e W6 ⟨t0, t1, rfl, n0, n1, hd⟩
        refine ⟨_, rfl, t0, t1, _, rfl, ?_⟩
        refine Na.mk fun b9 W7 hb9 hm9 hs9 hc9 => ?_
        have lt9 := heap_lt hc9
        refine stC_at (b := b9) (o := 0) rfl hc9 (by simp) (by simp [Value.oneCell', Sl.v]) (fun W8 h9 m9 sz9 => ?_)
        rw [setL_all (by simp)] at h9
        refine ⟨t0, fun _ => cell_of_heap h9 rfl, t1, fun _ => cell_of_heap h9 rfl, ?_, ((hm1.trans0 hm15).trans0 n0.mod).trans0 (hm9.trans m9 (fun i hi e => by omega))⟩
        have l0 : t0.len = (sigOf m m.start).1.ins.length := by have := n0.own.1; simpa using this.symm
        have l1 : t1.len = (sigOf m m.start).1.outs.length := by have := n1.own.1; simpa using this.symm
        rw [l0, l1]
        unfold namesOk startOk; rw [hex, if_neg hs]; rfl
    | succ n ih =>
      intro k W5 hn hkl he hm35 hnm
      have hlt : k < m.exports.length := by omega
      rw [List.drop_eq_getElem_cons hlt, expGo] at he
      have hm15 := hm13.trans0 hm35
      have hx := List.getElem_mem hlt
      have hns' := hns _ hx
      have hkx := hk _ hx
      refine hL _ _ (Br.dec (fun _ => ?_) (fun hge => absurd (by rw [hm.exports.1]; omega) hge))
      obtain ⟨q, hq, c0, c1, c2⟩ := hm.exports.get hlt
      have hs5 := (hr.mod0 hm1).mod0 hm15
      refine ⟨q, ⟨hq, by omega, by rw [hm.exports.1]; omega⟩, _, hs5 _ _ c0, _, hs5 _ _ c1, _, hs5 _ _ c2, ?_⟩
      refine Na.mk fun b8 W6 hb8 hm6 hs6 hc6 => ?_
      have lt8 := heap_lt hc6
      refine stC_at (b := b8) (o := 0) rfl hc6 (by simp) (by simp [Value.oneCell']) (fun W7 h7 m7 sz7 => ?_)
      rw [setL_all (by simp)] at h7
      have hm57 : Mod NoB W5 W7 := hm6.trans m7 (fun i hi e => by omega)
      refine Dw.mk fun W8 hm8 hh8 => ?_
      have h8 := hm8.heap h7 (fun h => h)
      have hm38 := (hm35.trans0 hm57).trans0 hm8
      have h58 := hm38.heap h5 (fun h => h)
      refine ⟨fun w => w = W8, rfl, _, fun w hw => hw ▸ cell_of_heap h8 rfl, ?_⟩
      have hnm8 := (hnm.mod hm57 (fun h => h)).mod hm8 (fun h => h)
      refine name_look hnm8 hns' (fun c hc => ⟨c, rfl, rfl, _, fun _ w hw => hw ▸ cell_of_heap h8 rfl, _, fun _ w hw => hw ▸ cell_of_heap h8 rfl, fun _ => ⟨hkx.1, by omega⟩, cntOf m funcs m.exports[k].kind, fun _ w hw => ?_, ?_⟩)
      · rw [hw]
        rw [add_mk]
        refine cell_of_heap h58 ?_
        have h4 : m.exports[k].kind = 0 ∨ m.exports[k].kind = 1 ∨ m.exports[k].kind = 2 ∨ m.exports[k].kind = 3 := by omega
        unfold cntOf
        rcases h4 with h | h | h | h <;> rw [h] <;> rfl
      · have hiff : ((decide (c > 0)) || (decide (m.exports[k].index ≥ cntOf m funcs m.exports[k].kind))) = true ↔ (hasName ((m.exports.take k).map (·.name)) m.exports[k].name = true ∨ cntOf m funcs m.exports[k].kind ≤ m.exports[k].index) := by
          rw [Bool.or_eq_true, decide_eq_true_eq, decide_eq_true_eq, hasName_iff, hc]
        refine Br.mk (fun hb => ⟨?_, (hm1.trans0 hm13).trans0 hm38⟩) (fun hb => ?_)
        · rw [if_pos (hiff.1 hb)] at he
          unfold namesOk; rw [he]; rfl
        · have hno := mt hiff.2 (by rw [hb]; simp)
          rw [if_neg hno] at he
          refine ⟨_, cell_of_heap h8 rfl, ?_⟩
          have hl := hm.exports.1
          rw [wrap_id (by omega) (by omega)]
          refine name_put hnm8 hns' (by unfold maxLen; omega) (by omega) (by omega) (fun W9 hnm9 hm9 => ?_)
          refine ih (k + 1) W9 (by omega) hlt ?_ (hm38.trans hm9 (fun i hi e => by omega)) ?_
          · rw [he, List.take_succ_eq_append_getElem hlt, List.map_append]; rfl
          · rw [List.take_succ_eq_append_getElem hlt, List.map_append]; exact hnm9
  exact key m.exports.length 0 W4 (by omega) (by omega) rfl hm4 hnm4
end Go.Proofs.YtacjnpahlbibhaaDoor
end

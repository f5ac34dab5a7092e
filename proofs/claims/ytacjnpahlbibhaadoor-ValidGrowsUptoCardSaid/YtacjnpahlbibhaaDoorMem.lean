/- Memory: what stays, what a call owns, reading. -/
import Derived.Test.YtacjnpahlbibhaaDoorVcSound
import Derived.Deep.AppendSrc
import Derived.Deep.Upon
import Derived.Below
set_option linter.unusedVariables false
set_option linter.unusedSimpArgs false
namespace Go.Proofs.YtacjnpahlbibhaaDoor
open Go Go.RowKit

/-! ### What stays -/
/-- Of the blocks that were there, those outside 'S' are as they were. -/
structure Mod (S : Nat → Prop) (w w' : World) : Prop where
  os : w'.os = w.os
  tape : w'.tape = w.tape
  output : w'.output = w.output
  size : w.heap.size ≤ w'.heap.size
  block : ∀ k, k < w.heap.size → ¬ S k → w'.heap[k]? = w.heap[k]?
abbrev NoB : Nat → Prop := fun _ => False
theorem Mod.refl (S : Nat → Prop) (w : World) : Mod S w w := ⟨rfl, rfl, rfl, Nat.le_refl _, fun _ _ _ => rfl⟩
theorem Mod.trans {S T : Nat → Prop} {a b c : World} (h : Mod S a b) (k : Mod T b c) (hs : ∀ i, i < a.heap.size → T i → S i) : Mod S a c :=
  ⟨k.os.trans h.os, k.tape.trans h.tape, k.output.trans h.output, Nat.le_trans h.size k.size, fun i hi hn =>
    (k.block i (Nat.lt_of_lt_of_le hi h.size) (fun ht => hn (hs i hi ht))).trans (h.block i hi hn)⟩
theorem Mod.trans0 {S : Nat → Prop} {a b c : World} (h : Mod S a b) (k : Mod NoB b c) : Mod S a c := h.trans k (fun _ _ h => h.elim)
theorem Mod.transS {S : Nat → Prop} {a b c : World} (h : Mod S a b) (k : Mod S b c) : Mod S a c := h.trans k (fun _ _ h => h)
theorem Mod.mono {S T : Nat → Prop} {a b : World} (h : Mod S a b) (hs : ∀ i, i < a.heap.size → S i → T i) : Mod T a b :=
  ⟨h.os, h.tape, h.output, h.size, fun i hi hn => h.block i hi (fun x => hn (hs i hi x))⟩
theorem Mod.of0 {S : Nat → Prop} {a b : World} (h : Mod NoB a b) : Mod S a b := h.mono (fun _ _ h => h.elim)
theorem Mod.drew (S : Nat → Prop) (w : World) : Mod S w w.drew := ⟨rfl, rfl, rfl, Nat.le_refl _, fun _ _ _ => rfl⟩
theorem Mod.alloc (S : Nat → Prop) (w : World) (o : Obj) : Mod S w (w.alloc o) :=
  ⟨rfl, rfl, rfl, by simp, fun k hk _ => Below.heap_alloc _ _ _ hk⟩
theorem Mod.setCell {S : Nat → Prop} (w : World) (p : Addr) (v : Value) (h : S p.block) : Mod S w (w.setCell p v) :=
  ⟨rfl, rfl, rfl, by simp [World.setCell], fun k hk hn => Below.heap_setCell _ _ _ _ (fun e => hn (e ▸ h))⟩
theorem Mod.below {S : Nat → Prop} {w w' : World} (h : Mod S w w') {B : Nat} (hB : B ≤ w.heap.size) (hs : ∀ k, k < B → ¬ S k) : Below B w w' :=
  ⟨h.os, h.tape, h.output, h.size, fun k hk => h.block k (Nat.lt_of_lt_of_le hk hB) (hs k hk)⟩
theorem lt_of_cell {w : World} {p : Addr} {v : Value} (h : w.cell? p = some v) : p.block < w.heap.size := World.block_lt_of_cell? w p h
theorem Mod.cell {S : Nat → Prop} {w w' : World} (h : Mod S w w') {p : Addr} {v : Value} (hc : w.cell? p = some v) (hn : ¬ S p.block) : w'.cell? p = some v := by
  rw [World.cell?_of_block (h.block p.block (lt_of_cell hc) hn)]; exact hc

/-! ### Addresses -/
theorem add_block (p : Addr) (n : Nat) : (p.add n).block = p.block := by unfold Addr.add; split <;> rfl
theorem add_add (p : Addr) (m n : Nat) : (p.add m).add n = p.add (m + n) := by
  unfold Addr.add
  by_cases hm : m = 0
  · subst hm; simp
  · by_cases hn : n = 0
    · subst hn; simp
    · have : m + n ≠ 0 := by omega
      simp [hm, hn, this, Nat.add_assoc]
theorem add_zero (p : Addr) : p.add 0 = p := by unfold Addr.add; simp
theorem add_mk (b o n : Nat) : (⟨b, o, none⟩ : Addr).add n = ⟨b, o + n, none⟩ := by
  unfold Addr.add; split
  · rename_i h; subst h; rfl
  · rfl

/-! ### Reading -/
abbrev Rd := Addr → Option Value
def Sub (r : Rd) (w : World) : Prop := ∀ p v, r p = some v → w.cell? p = some v
def Le (r r' : Rd) : Prop := ∀ p v, r p = some v → r' p = some v
theorem Le.refl (r : Rd) : Le r r := fun _ _ h => h
theorem Le.trans {a b c : Rd} (h : Le a b) (k : Le b c) : Le a c := fun p v x => k p v (h p v x)
theorem Sub.le {r r' : Rd} {w : World} (h : Le r r') (k : Sub r' w) : Sub r w := fun p v x => k p v (h p v x)
theorem Sub.self (w : World) : Sub w.cell? w := fun _ _ h => h
/-- The blocks that a reading uses lie outside 'S'. -/
def Off (r : Rd) (S : Nat → Prop) : Prop := ∀ p v, r p = some v → ¬ S p.block
theorem Off.no (r : Rd) : Off r NoB := fun _ _ _ h => h
theorem Sub.mod {r : Rd} {S : Nat → Prop} {w w' : World} (h : Sub r w) (m : Mod S w w') (o : Off r S) : Sub r w' :=
  fun p v x => m.cell (h p v x) (o p v x)
theorem Sub.mod0 {r : Rd} {w w' : World} (h : Sub r w) (m : Mod NoB w w') : Sub r w' := h.mod m (Off.no r)
/-- All memory but 'S'. -/
noncomputable def offS (w : World) (S : Nat → Prop) : Rd := fun p => open Classical in if S p.block then none else w.cell? p
theorem offS_sub (w : World) (S : Nat → Prop) : Sub (offS w S) w := by
  intro p v h; unfold offS at h; split at h
  · cases h
  · exact h
theorem offS_off (w : World) (S : Nat → Prop) : Off (offS w S) S := by
  intro p v h hs; unfold offS at h; rw [if_pos hs] at h; cases h
theorem offS_of {w : World} {S : Nat → Prop} {p : Addr} {v : Value} (h : w.cell? p = some v) (hn : ¬ S p.block) : offS w S p = some v := by
  unfold offS; rw [if_neg hn]; exact h

/-- A slice whose elements, each of 'sz' cells, read as 'R' says. -/
def SlOf {α : Type} (sz : Nat) (R : Rd → Addr → α → Prop) (r : Rd) (s : Sl) (xs : List α) : Prop :=
  s.len = xs.length ∧ ∀ i x, xs[i]? = some x → ∃ q, s.a = some q ∧ R r (q.add (i * sz)) x
theorem SlOf.mono {α : Type} {sz : Nat} {R : Rd → Addr → α → Prop} (hR : ∀ r r' q x, Le r r' → R r q x → R r' q x) {r r' : Rd} {s : Sl} {xs : List α} (hl : Le r r') (h : SlOf sz R r s xs) : SlOf sz R r' s xs :=
  ⟨h.1, fun i x hx => let ⟨q, hq, hr⟩ := h.2 i x hx; ⟨q, hq, hR _ _ _ _ hl hr⟩⟩
theorem SlOf.get {α : Type} {sz : Nat} {R : Rd → Addr → α → Prop} {r : Rd} {s : Sl} {xs : List α} (h : SlOf sz R r s xs) {i : Nat} (hi : i < xs.length) :
    ∃ q, s.a = some q ∧ R r (q.add (i * sz)) xs[i] := h.2 i _ (List.getElem?_eq_getElem hi)
theorem SlOf.len {α : Type} {sz : Nat} {R : Rd → Addr → α → Prop} {r : Rd} {s : Sl} {xs : List α} (h : SlOf sz R r s xs) : s.len = xs.length := h.1
theorem SlOf.nil {α : Type} {sz : Nat} {R : Rd → Addr → α → Prop} {r : Rd} (a : Option Addr) (c : Nat) : SlOf sz R r ⟨a, 0, c⟩ ([] : List α) := ⟨rfl, fun i x hx => by simp at hx⟩
def IntR (k : IntKind) (r : Rd) (q : Addr) (x : Int) : Prop := r q = some (.int k x)
abbrev Ints (r : Rd) (s : Sl) (xs : List Int) : Prop := SlOf 1 (IntR .i64) r s xs
abbrev U64s (r : Rd) (s : Sl) (xs : List Int) : Prop := SlOf 1 (IntR .u64) r s xs
abbrev Bytes (r : Rd) (s : Sl) (xs : List Int) : Prop := SlOf 1 (IntR .u8) r s xs
theorem IntR.mono {k : IntKind} : ∀ r r' q x, Le r r' → IntR k r q x → IntR k r' q x := fun _ _ _ _ h k => h _ _ k
theorem Ints.mono {k : IntKind} {r r' : Rd} {s : Sl} {xs : List Int} (h : SlOf 1 (IntR k) r s xs) (hl : Le r r') : SlOf 1 (IntR k) r' s xs := SlOf.mono IntR.mono hl h

/-! ### Words that a condition is made of -/
theorem Br.mk {b : Bool} {A B : Prop} (h1 : b = true → A) (h2 : b = false → B) : Br b A B := ⟨h1, h2⟩
theorem Br.dec {p : Prop} [Decidable p] {A B : Prop} (h1 : p → A) (h2 : ¬ p → B) : Br (decide p) A B := ⟨fun h => h1 (of_decide_eq_true h), fun h => h2 (of_decide_eq_false h)⟩
theorem Br.eq {x y : Int} {A B : Prop} (h1 : x = y → A) (h2 : x ≠ y → B) : Br (x == y) A B := ⟨fun h => h1 (by simpa using h), fun h => h2 (by simpa using h)⟩
theorem Br.ne {x y : Int} {A B : Prop} (h1 : x ≠ y → A) (h2 : x = y → B) : Br (x != y) A B := ⟨fun h => h1 (by simpa using h), fun h => h2 (by simpa using h)⟩
theorem Br.t {A B : Prop} (h : A) : Br true A B := ⟨fun _ => h, nofun⟩
theorem Br.f {A B : Prop} (h : B) : Br false A B := ⟨nofun, fun _ => h⟩
theorem Dw.mk {w : World} {K : World → Prop} (h : ∀ w', Mod NoB w w' → w'.heap = w.heap → K w') : Dw w K := h _ (Mod.drew _ w) rfl
theorem Nw.mk {w : World} {K : World → Prop} (h : ∀ w', w' = w → K w') : Nw w K := h w rfl
/-- A new block. -/
theorem Na.mk {w : World} {cs : Array Value} {e : TypeId} {K : Addr → World → Prop}
    (h : ∀ b w', b = w.heap.size → Mod NoB w w' → w'.heap.size = w.heap.size + 1 → w'.heap[b]? = some (.cells cs e (0, 0)) → K ⟨b, 0, none⟩ w') : Na w cs e K :=
  h _ _ rfl (Mod.alloc _ _ _) (by simp) (by show (w.heap.push _)[w.heap.size]? = _; simp)
theorem CallV.mk {P : Program} {f : FuncId} {args : Array Value} {w : World} {K : Value → World → Prop} {R : Ending → World → Prop} (he : Ent P f) (h : Calls P f args w R)
    (hk : ∀ e w', R e w' → ∃ v, e = .returned v ∧ K v w') : CallV P f args w K := ⟨he, h.mono hk⟩
theorem wrap_id {x : Int} (h1 : -9223372036854775808 ≤ x) (h2 : x ≤ 9223372036854775807) : IntKind.wrap .i64 x = x := by
  rw [IntWalk.i64_in]; exact ⟨h1, h2⟩
theorem cell_of_heap {w : World} {b i : Nat} {cs : Array Value} {e : TypeId} {fr : Nat × Nat} {v : Value} (h : w.heap[b]? = some (.cells cs e fr)) (hv : cs[i]? = some v) : w.cell? ⟨b, i, none⟩ = some v := by
  simp [World.cell?, h, hv]
theorem frozen_of_heap {w : World} {p : Addr} {cs : Array Value} {e : TypeId} (h : w.heap[p.block]? = some (.cells cs e (0, 0))) : w.frozen? p = false := by
  simp [World.frozen?, h]
theorem frozen_of_heap' {w : World} {p : Addr} {cs : Array Value} {e : TypeId} {fr : Nat × Nat} (h : w.heap[p.block]? = some (.cells cs e fr)) (hf : fr = (0, 0) ∨ cs.size ≤ fr.1) (hlt : p.off < cs.size) : w.frozen? p = false := by
  obtain ⟨lo, hi⟩ := fr
  rcases hf with hf | hf
  · cases hf; exact frozen_of_heap h
  · simp only at hf
    simp only [World.frozen?, h]
    rw [decide_eq_false (by omega), Bool.false_and]
theorem heap_setCell_self {w : World} {b i : Nat} {cs : Array Value} {e : TypeId} {fr : Nat × Nat} (h : w.heap[b]? = some (.cells cs e fr)) (v : Value) :
    (w.setCell ⟨b, i, none⟩ v).heap[b]? = some (.cells (cs.setIfInBounds i v) e fr) := by
  simp [World.setCell, Array.getElem?_modify, h]
theorem heap_setCell_ne {w : World} {p : Addr} {k : Nat} (v : Value) (h : k ≠ p.block) : (w.setCell p v).heap[k]? = w.heap[k]? := Below.heap_setCell _ _ _ _ h

/-- Cells of a row, set. -/
def setL : Array Value → Nat → List Value → Array Value
  | cs, _, [] => cs
  | cs, o, v :: vs => setL (cs.setIfInBounds o v) (o + 1) vs
/-- A store into a block that is known whole. -/
theorem stC_heap : ∀ {vs : List Value} {i : Nat} {W : World} {p : Addr} {K : World → Prop} {b o : Nat} {e : TypeId} {fr : Nat × Nat} {cs : Array Value}, (fr = (0, 0) ∨ cs.size ≤ fr.1) → p = ⟨b, o, none⟩ → W.heap[b]? = some (.cells cs e fr) → o + i + vs.length ≤ cs.size →
    (∀ v ∈ vs, v.oneCell' = true) → (∀ W', W'.heap[b]? = some (.cells (setL cs (o + i) vs) e fr) → Mod (fun k => k = b) W W' → W'.heap.size = W.heap.size → K W') → stC W p vs i K := by
  intro vs
  induction vs with
  | nil => intro i W p K b o e fr cs hfr hp hh hl h1 hk; exact hk W hh (Mod.refl _ _) rfl
  | cons v vs ih =>
    intro i W p K b o e fr cs hfr hp hh hl h1 hk
    subst hp
    simp only [List.length_cons] at hl
    have hlt : o + i < cs.size := by omega
    have hm : Mod (fun k => k = b) W (W.setCell ⟨b, o + i, none⟩ v) := Mod.setCell W ⟨b, o + i, none⟩ v rfl
    have key : (∃ u, W.cell? ((⟨b, o, none⟩ : Addr).add i) = some u) ∧ W.frozen? ((⟨b, o, none⟩ : Addr).add i) = false ∧ stC (W.setCell ((⟨b, o, none⟩ : Addr).add i) v) ⟨b, o, none⟩ vs (i + 1) K := by
      rw [add_mk]
      refine ⟨⟨_, cell_of_heap hh (Array.getElem?_eq_getElem hlt)⟩, frozen_of_heap' (p := ⟨b, _, none⟩) hh hfr hlt, ?_⟩
      refine ih (by simpa using hfr) rfl (heap_setCell_self hh v) (by simp; omega) (fun u hu => h1 u (List.mem_cons_of_mem _ hu)) (fun W' h2 h3 h4 => hk W' ?_ (hm.transS h3) (by rw [h4]; simp [World.setCell]))
      show W'.heap[b]? = some (.cells (setL (cs.setIfInBounds (o + i) v) (o + i + 1) vs) e fr)
      rw [show o + i + 1 = o + (i + 1) from by omega]
      exact h2
    have hv := h1 v (by simp)
    cases v <;> first
      | exact key
      | cases hv
theorem stC_at {vs : List Value} {W : World} {p : Addr} {K : World → Prop} {b o : Nat} {e : TypeId} {cs : Array Value} (hp : p = ⟨b, o, none⟩) (hh : W.heap[b]? = some (.cells cs e (0, 0))) (hl : o + vs.length ≤ cs.size)
    (h1 : ∀ v ∈ vs, v.oneCell' = true) (hk : ∀ W', W'.heap[b]? = some (.cells (setL cs o vs) e (0, 0)) → Mod (fun k => k = b) W W' → W'.heap.size = W.heap.size → K W') : stC W p vs 0 K :=
  stC_heap (i := 0) (.inl rfl) hp hh hl h1 hk

theorem stC_fr {vs : List Value} {W : World} {p : Addr} {K : World → Prop} {b o : Nat} {e : TypeId} {fr : Nat × Nat} {cs : Array Value} (hfr : fr = (0, 0) ∨ cs.size ≤ fr.1) (hp : p = ⟨b, o, none⟩) (hh : W.heap[b]? = some (.cells cs e fr)) (hl : o + vs.length ≤ cs.size)
    (h1 : ∀ v ∈ vs, v.oneCell' = true) (hk : ∀ W', W'.heap[b]? = some (.cells (setL cs o vs) e fr) → Mod (fun k => k = b) W W' → W'.heap.size = W.heap.size → K W') : stC W p vs 0 K :=
  stC_heap (i := 0) hfr hp hh hl h1 hk

/-! ### Slices that a call owns -/
def Sl.isB (s : Sl) (b : Nat) : Prop := ∃ q, s.a = some q ∧ q.block = b
/-- The slice is nil, or lies at the head of a block of its own; its elements' cells are 'xs'. -/
def Own (w : World) (e : TypeId) (sz : Nat) (s : Sl) (xs : List Value) : Prop :=
  xs.length = s.len * sz ∧
  (s = ⟨none, 0, 0⟩ ∨ ∃ g cur fr, s.a = some ⟨g, 0, none⟩ ∧ w.heap[g]? = some (.cells cur e fr) ∧ (fr = (0, 0) ∨ cur.size ≤ fr.1) ∧ s.len ≤ s.cap ∧ s.cap ≤ maxLen ∧ cur.size = s.cap * sz ∧ cur.toList.take (s.len * sz) = xs)
theorem Own.nil (w : World) (e : TypeId) (sz : Nat) : Own w e sz ⟨none, 0, 0⟩ [] := ⟨by simp, .inl rfl⟩
theorem Own.mod {w w' : World} {e : TypeId} {sz : Nat} {s : Sl} {xs : List Value} {S : Nat → Prop} (h : Own w e sz s xs) (m : Mod S w w') (hn : ∀ b, s.isB b → ¬ S b) : Own w' e sz s xs := by
  refine ⟨h.1, h.2.imp id ?_⟩
  rintro ⟨g, cur, fr, ha, hh, h3⟩
  have hlt : g < w.heap.size := by
    rcases Nat.lt_or_ge g w.heap.size with h' | h'
    · exact h'
    · simp [Array.getElem?_eq_none h'] at hh
  exact ⟨g, cur, fr, ha, by rw [m.block g hlt (hn g ⟨_, ha, rfl⟩)]; exact hh, h3⟩
theorem Own.mod0 {w w' : World} {e : TypeId} {sz : Nat} {s : Sl} {xs : List Value} (h : Own w e sz s xs) (m : Mod NoB w w') : Own w' e sz s xs := h.mod m (fun _ _ h => h)
theorem Own.lt {w : World} {e : TypeId} {sz : Nat} {s : Sl} {xs : List Value} (h : Own w e sz s xs) {b : Nat} (hb : s.isB b) : b < w.heap.size := by
  obtain ⟨q, hq, rfl⟩ := hb
  rcases h.2 with h | ⟨g, cur, fr, ha, hh, _⟩
  · subst h; cases hq
  · rw [ha] at hq; cases hq
    rcases Nat.lt_or_ge g w.heap.size with h' | h'
    · exact h'
    · simp [Array.getElem?_eq_none h'] at hh
theorem Own.cell {w : World} {e : TypeId} {sz : Nat} {s : Sl} {xs : List Value} (h : Own w e sz s xs) {i : Nat} {v : Value} (hv : xs[i]? = some v) : ∃ q, s.a = some q ∧ w.cell? (q.add i) = some v := by
  rcases h.2 with h' | ⟨g, cur, fr, ha, hh, _, _, _, _, ht⟩
  · subst h'; have := h.1; simp at this; subst this; simp at hv
  · refine ⟨_, ha, ?_⟩
    rw [add_mk, Nat.zero_add]
    refine cell_of_heap hh ?_
    rw [← ht, List.getElem?_take] at hv
    split at hv
    · simpa using hv
    · cases hv
/-- An owned slice of whole numbers reads so. -/
theorem Own.ints {w : World} {e : TypeId} {s : Sl} {xs : List Int} {k : IntKind} (h : Own w e 1 s (xs.map (.int k))) {r : Rd} (hr : ∀ q, s.a = some q → ∀ i v, w.cell? (q.add i) = some v → r (q.add i) = some v) : SlOf 1 (IntR k) r s xs := by
  refine ⟨by have := h.1; simpa using this.symm, fun i x hx => ?_⟩
  obtain ⟨q, hq, hc⟩ := h.cell (i := i) (v := .int k x) (by simp [hx])
  exact ⟨q, hq, by rw [Nat.mul_one]; exact hr q hq i _ hc⟩

theorem setCells_size (b : Nat) : ∀ (vs : List Value) (o : Nat) (w : World), (w.setCells b o vs).heap.size = w.heap.size := by
  intro vs
  induction vs with
  | nil => intro o w; rfl
  | cons v vs ih => intro o w; unfold World.setCells; rw [ih]; simp [World.setCell]
theorem heap_setCells_self {b : Nat} {e : TypeId} {fr : Nat × Nat} : ∀ (vs : List Value) (o : Nat) (w : World) (cur : Array Value), w.heap[b]? = some (.cells cur e fr) → o + vs.length ≤ cur.size →
    ∃ cur', (w.setCells b o vs).heap[b]? = some (.cells cur' e fr) ∧ cur'.size = cur.size ∧ ∀ j, cur'[j]? = if o ≤ j ∧ j < o + vs.length then vs[j - o]? else cur[j]? := by
  intro vs
  induction vs with
  | nil => intro o w cur h hl; exact ⟨cur, h, rfl, fun j => by rw [if_neg (by simp)]⟩
  | cons v vs ih =>
    intro o w cur h hl
    simp only [List.length_cons] at hl
    obtain ⟨cur', h1, h2, h3⟩ := ih (o + 1) (w.setCell ⟨b, o, none⟩ v) _ (heap_setCell_self h v) (by simp; omega)
    refine ⟨cur', h1, by simpa using h2, fun j => ?_⟩
    rw [h3]
    simp only [Array.getElem?_setIfInBounds, List.length_cons]
    by_cases hj : j = o
    · subst hj; rw [if_neg (by omega), if_pos rfl, if_pos (by omega), if_pos (by omega)]; simp
    · by_cases hj2 : o + 1 ≤ j ∧ j < o + 1 + vs.length
      · rw [if_pos hj2, if_pos (by omega), show j - o = (j - (o + 1)) + 1 from by omega]; rfl
      · rw [if_neg hj2, if_neg (fun e => hj e.symm), if_neg (by omega)]
theorem mod_setCells {S : Nat → Prop} (b : Nat) (hb : S b) (vs : List Value) (o : Nat) (w : World) : Mod S w (w.setCells b o vs) := by
  refine ⟨World.os_setCells w b o vs, ?_, World.output_setCells w b o vs, Nat.le_of_eq (setCells_size b vs o w).symm, fun k hk hn => World.heap_setCells_other w b o vs hk (fun e => hn (e ▸ hb))⟩
  induction vs generalizing o w with
  | nil => rfl
  | cons v vs ih => unfold World.setCells; rw [ih]; rfl

section
variable {P : Program}
/-- 'append' onto a slice that the call owns. -/
theorem append_own {w : World} {t tx ty e : TypeId} {i : TypeInfo} {z : Value} {sz : Nat} (ht : P.underlying t = some (.slice e)) (hi : P.info? e = some i) (hz : i.zero = some z) (hsz : i.size = sz) (hzc : z.cells.size = sz)
    {s : Sl} {xs : List Value} (ho : Own w e sz s xs) {x : Value} {n : Nat} {news : List Value} (hs : Src P sz tx x n news w) (hb : (s.len + n) * i.bytes ≤ 140737488355328) (hl : s.len + n ≤ maxLen) {K : Value → World → Prop}
    (hk : ∀ (s' : Sl) w', Own w' e sz s' (xs ++ news) → s'.len = s.len + n → Mod s.isB w w' → (∀ b, s'.isB b → s.isB b ∨ w.heap.size ≤ b) → K s'.v w') : RunV P (Builtin.append_ #[t, tx] ty #[s.v, x]) w K := by
  have hlen : (xs ++ news).length = (s.len + n) * sz := by rw [List.length_append, ho.1, hs.newsLen, Nat.add_mul]
  by_cases hroom : s.len + n ≤ s.cap
  · rcases ho.2 with h | ⟨g, cur, fr, ha, hh, hfr, hlc, hm, hcs, htk⟩
    · subst h
      have hn : n = 0 := by simpa using hroom
      subst hn
      have hnews : news = [] := by have := hs.newsLen; simpa using this
      subst hnews
      have hrun : (Builtin.append_ #[t, tx] ty #[(⟨none, 0, 0⟩ : Sl).v, x]).run P w = .ok (⟨none, 0, 0⟩ : Sl).v w := by
        rcases hs.kind with ⟨e', hk'⟩ | hk' <;> simp [Builtin.append_, run_underlying ht, run_underlying hk', sizeOf, typeInfo, hi, hs.len, hsz, hs.cells]
      unfold RunV
      rw [hrun]
      exact hk ⟨none, 0, 0⟩ w (by simpa using ho) rfl (Mod.refl _ _) (fun b hb => .inl hb)
    · obtain ⟨sa, sl, sc⟩ := s
      simp only at ha hlc hm hcs htk hroom hb hl
      subst ha
      have hnl : news.length = n * sz := hs.newsLen
      have hsum : 0 + sl * sz + news.length ≤ cur.size := by rw [hcs, hnl, Nat.zero_add, ← Nat.add_mul]; exact Nat.mul_le_mul_right _ hroom
      have hc : ∀ j, j < news.length → (w.cell? ⟨g, 0 + sl * i.size + j, none⟩).isSome = true := by
        intro j hj
        rw [hsz]
        have : 0 + sl * sz + j < cur.size := by omega
        rw [cell_of_heap hh (Array.getElem?_eq_getElem this)]; rfl
      have hf : ∀ j, j < news.length → w.frozen? ⟨g, 0 + sl * i.size + j, none⟩ = false := fun j hj => frozen_of_heap' (p := ⟨g, _, none⟩) hh hfr (by show 0 + sl * i.size + j < cur.size; rw [hsz]; omega)
      have hrun := run_append_room_src (P := P) w t tx ty e i ht hi g 0 sl sc x n news (hsz ▸ hs) hroom hc hf
      unfold RunV
      rw [show (⟨some ⟨g, 0, none⟩, sl, sc⟩ : Sl).v = .slice (some ⟨g, 0, none⟩) sl sc from rfl, hrun]
      obtain ⟨cur', h1, h2, h3⟩ := heap_setCells_self news (0 + sl * i.size) w cur hh (by rw [hsz]; exact hsum)
      refine hk ⟨some ⟨g, 0, none⟩, sl + n, sc⟩ _ ⟨hlen, .inr ⟨g, cur', fr, rfl, h1, by rw [h2]; exact hfr, hroom, hm, by rw [h2, hcs], ?_⟩⟩ rfl (mod_setCells g ⟨_, rfl, rfl⟩ news _ w) (fun b hb => .inl hb)
      apply List.ext_getElem?
      intro j
      rw [List.getElem?_take]
      have hx : xs.length = sl * sz := ho.1
      by_cases hj : j < (sl + n) * sz
      · rw [if_pos hj]
        have e1 : cur'.toList[j]? = cur'[j]? := by simp
        rw [e1, h3, hsz, Nat.zero_add]
        by_cases hj2 : sl * sz ≤ j
        · rw [if_pos ⟨hj2, by rw [hnl, ← Nat.add_mul]; exact hj⟩, List.getElem?_append_right (by omega), hx]
        · rw [if_neg (by omega), List.getElem?_append_left (by omega), ← htk, List.getElem?_take, if_pos (by omega)]; simp
      · rw [if_neg hj, List.getElem?_eq_none (by rw [hlen]; exact Nat.le_of_not_lt hj)]
  · have hg : s.cap < s.len + n := by omega
    have hold : (Builtin.firstCells i.size s.len (.slice s.a s.len s.cap)).run P w.drew = .ok xs.toArray w.drew := by
      rcases ho.2 with h | ⟨g, cur, fr, ha, hh, hfr, hlc, hm, hcs, htk⟩
      · subst h
        have := ho.1; simp at this; subst this
        exact run_firstCells_none _ _ _ _ _
      · rw [ha]
        refine run_firstCells_some _ _ _ _ _ _ _ (by rw [ho.1, hsz]) (fun j v hv => ?_)
        obtain ⟨q, hq, hc⟩ := ho.cell hv
        rw [ha] at hq; cases hq
        exact hc
    have hrun := run_append_grow_src (P := P) w t tx ty e i z ht hi hz s.a s.len s.cap xs hold x n news (hsz ▸ hs) hg (by unfold maxLen at hl; omega) (growslice_fits hg hb)
    unfold RunV
    rw [show s.v = .slice s.a s.len s.cap from rfl, hrun]
    have hcap := grownCap_ge w (s.len + n) s.cap e
    have hcm := grownCap_le_maxLen w (s.len + n) s.cap e hl
    refine hk ⟨some ⟨w.heap.size, 0, none⟩, s.len + n, grownCap w (s.len + n) s.cap e⟩ _ ⟨hlen, .inr ⟨w.heap.size, _, (0, 0), rfl, (by show (w.heap.push _)[w.heap.size]? = _; simp; rfl), .inl rfl, hcap, hcm, ?_, ?_⟩⟩ rfl ?_ ?_
    · rw [Array.size_append, size_zeroCells, hzc]
      simp only [List.size_toArray]
      rw [hlen, ← Nat.add_mul]
      congr 1; omega
    · rw [Array.toList_append, List.take_append_of_le_length (by rw [hlen]; exact Nat.le_refl _)]
      rw [← hlen, List.take_length]
    · exact (Mod.drew _ w).transS (Mod.alloc _ _ _)
    · rintro b ⟨q, hq, rfl⟩; cases hq; exact .inr (Nat.le_refl _)
/-- The source of an append: cells that stand somewhere. -/
theorem Src.read {w : World} {sz : Nat} {tx e' : TypeId} (hk : P.underlying tx = some (.slice e')) {s : Sl} {news : List Value} (hl : news.length = s.len * sz)
    (hn : ∀ j u, news[j]? = some u → ∃ q, s.a = some q ∧ w.cell? (q.add j) = some u) (h1 : ∀ u ∈ news, u.oneCell' = true) : Src P sz tx s.v s.len news w := by
  obtain ⟨a, l, c⟩ := s
  cases a with
  | some q =>
    exact Src.ofSlice w hk q l c news hl (fun j u hu => by obtain ⟨q', hq, hc⟩ := hn j u hu; cases hq; exact hc) h1
  | none =>
    have hnews : news = [] := by
      cases news with
      | nil => rfl
      | cons u r => obtain ⟨q', hq, _⟩ := hn 0 u rfl; cases hq
    subst hnews
    refine ⟨.inl ⟨e', hk⟩, fun _ => rfl, run_firstCells_none w sz l l c, run_firstCells_none w.drew sz l l c, hl, fun _ h => by cases h⟩
/-- What is known of a slice's type: the element's zero, its cells, its bytes. -/
structure TyFacts (P : Program) (t e : TypeId) (z : Value) (sz bytes : Nat) : Prop where
  und : P.underlying t = some (.slice e)
  inf : (P.info? e).map (fun i => (i.zero, i.size, i.bytes)) = some (some z, sz, bytes)
theorem TyFacts.info {t e : TypeId} {z : Value} {sz bytes : Nat} (h : TyFacts P t e z sz bytes) : ∃ i, P.info? e = some i ∧ i.zero = some z ∧ i.size = sz ∧ i.bytes = bytes := by
  have := h.inf
  cases hi : P.info? e with
  | none => simp [hi] at this
  | some i => simp [hi] at this; exact ⟨i, rfl, this⟩
theorem TyFacts.append {t tx ty e : TypeId} {z : Value} {sz bytes : Nat} (h : TyFacts P t e z sz bytes) (hzc : z.cells.size = sz) {w : World} {s : Sl} {xs : List Value} (ho : Own w e sz s xs) {x : Value} {n : Nat} {news : List Value}
    (hs : Src P sz tx x n news w) (hb : (s.len + n) * bytes ≤ 140737488355328) (hl : s.len + n ≤ maxLen) {K : Value → World → Prop}
    (hk : ∀ (s' : Sl) w', Own w' e sz s' (xs ++ news) → s'.len = s.len + n → Mod s.isB w w' → (∀ b, s'.isB b → s.isB b ∨ w.heap.size ≤ b) → K s'.v w') : RunV P (Builtin.append_ #[t, tx] ty #[s.v, x]) w K := by
  obtain ⟨i, hi, hz, hsz, hby⟩ := h.info
  exact append_own h.und hi hz hsz hzc ho hs (by rw [hby]; exact hb) hl hk
end
end Go.Proofs.YtacjnpahlbibhaaDoor

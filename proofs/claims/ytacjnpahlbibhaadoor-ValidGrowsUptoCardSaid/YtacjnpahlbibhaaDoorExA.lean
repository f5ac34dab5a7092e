/- Contracts: what is known of an opcode: instr.scalars, vectors, Of. -/
import Derived.Test.YtacjnpahlbibhaaDoorEncC
import Derived.Test.YtacjnpahlbibhaaDoorMdlB
import Derived.Laws.IdiomStrings
set_option linter.unusedVariables false
set_option linter.unusedSimpArgs false
set_option maxRecDepth 100000
namespace Go.Proofs.YtacjnpahlbibhaaDoor
open Go Go.RowKit

theorem Mod.heap {S : Nat → Prop} {w w' : World} (m : Mod S w w') {b : Nat} {o : Obj} (h : w.heap[b]? = some o) (hn : ¬ S b) : w'.heap[b]? = some o := by
  rw [m.block b (heap_lt h) hn]; exact h
theorem Own.intsAll {w : World} {e : TypeId} {s : Sl} {xs : List Int} {k : IntKind} (h : Own w e 1 s (xs.map (.int k))) : SlOf 1 (IntR k) w.cell? s xs := h.ints (fun _ _ _ _ h => h)
abbrev iv (xs : List Int) : List Value := xs.map (.int .i64)
theorem ints_src {k : IntKind} {ty e : TypeId} (hu : Program.underlying Tryd.prog ty = some (.slice e)) {r : Rd} {W : World} {s : Sl} {xs : List Int} (h : SlOf 1 (IntR k) r s xs) (hr : Sub r W) : Src Tryd.prog 1 ty s.v xs.length (xs.map (.int k)) W := by
  have h1 := h.1
  rw [← h1]
  refine Src.read hu (by simp [h1]) (fun j u hx0 => ?_) (by intro u hu; obtain ⟨x, _, rfl⟩ := List.mem_map.1 hu; rfl)
  simp only [List.getElem?_map] at hx0
  cases hx : xs[j]? with
  | none => simp [hx] at hx0
  | some x =>
    simp [hx] at hx0; subst hx0
    obtain ⟨q, hq, hc⟩ := h.2 j x hx
    exact ⟨q, hq, hr _ _ (by simpa [IntR] using hc)⟩
theorem Ints.src {r : Rd} {W : World} {s : Sl} {xs : List Int} (h : Ints r s xs) (hr : Sub r W) : Src Tryd.prog 1 ty_sl_int s.v xs.length (iv xs) W :=
  ints_src tyf_sl_int.und h hr
/-- Numbers behind owned numbers. -/
theorem app_ints {W : World} {s : Sl} {xs : List Int} (ho : Own W ty_int 1 s (iv xs)) {x : Value} {tx ty : TypeId} {ys : List Int} (hs : Src Tryd.prog 1 tx x ys.length (iv ys) W)
    (hl : xs.length + ys.length ≤ big) {K : Value → World → Prop}
    (hk : ∀ (s' : Sl) W', Own W' ty_int 1 s' (iv (xs ++ ys)) → Mod s.isB W W' → (∀ b, s'.isB b → s.isB b ∨ W.heap.size ≤ b) → K s'.v W') :
    RunV Tryd.prog (Builtin.append_ #[ty_sl_int, tx] ty #[s.v, x]) W K := by
  have hsl : s.len = xs.length := by have := ho.1; simpa using this.symm
  unfold big at hl
  refine tyf_sl_int.append rfl ho hs (by omega) (by unfold maxLen; omega) (fun s' W' h1 h2 h3 h4 => hk s' W' (by unfold iv; rw [List.map_append]; exact h1) h3 h4)

/-! ### The tables -/
def RowR (r : Rd) (q : Addr) (x : Row) : Prop :=
  r (q.add 0) = some (.int .i64 x.lo) ∧ r (q.add 1) = some (.int .i64 x.hi) ∧ r (q.add 2) = some (.int .i64 x.form) ∧ r (q.add 3) = some (.int .i64 x.limit) ∧ r (q.add 4) = some (.string x.sig)
def rowCells (x : Row) : List Value := [.int .i64 x.lo, .int .i64 x.hi, .int .i64 x.form, .int .i64 x.limit, .string x.sig]
theorem flatMap_at {α : Type} {f : α → List Value} {n : Nat} (hf : ∀ x, (f x).length = n) : ∀ {xs : List α} {i j : Nat} {x : α}, xs[i]? = some x → j < n → (xs.flatMap f)[i * n + j]? = (f x)[j]? := by
  intro xs
  induction xs with
  | nil => intro i j x h; simp at h
  | cons a r ih =>
    intro i j x h hj
    rw [List.flatMap_cons]
    cases i with
    | zero =>
      simp at h; subst h
      rw [Nat.zero_mul, Nat.zero_add, List.getElem?_append_left (by rw [hf]; exact hj)]
    | succ i =>
      rw [List.getElem?_append_right (by rw [hf, Nat.succ_mul]; omega), hf, show (i + 1) * n + j - n = i * n + j from by rw [Nat.succ_mul]; omega]
      exact ih (by simpa using h) hj
theorem rows_read {W : World} {b : Nat} {e : TypeId} {xs : List Row} (h : W.heap[b]? = some (.cells (xs.flatMap rowCells).toArray e (0, 0))) : SlOf 5 RowR W.cell? ⟨some ⟨b, 0, none⟩, xs.length, xs.length⟩ xs := by
  refine ⟨rfl, fun i x hx => ⟨_, rfl, ?_⟩⟩
  have key : ∀ j, j < 5 → ∀ v, (rowCells x)[j]? = some v → W.cell? (((⟨b, 0, none⟩ : Addr).add (i * 5)).add j) = some v := by
    intro j hj v hv
    rw [add_add, add_mk]
    refine cell_of_heap h ?_
    rw [List.getElem?_toArray, Nat.zero_add, flatMap_at (n := 5) (fun _ => rfl) hx hj]
    exact hv
  exact ⟨key 0 (by omega) _ rfl, key 1 (by omega) _ rfl, key 2 (by omega) _ rfl, key 3 (by omega) _ rfl, key 4 (by omega) _ rfl⟩
theorem scalars_spec (W : World) : Calls Tryd.prog f_instr_scalars #[] W fun e W' => ∃ s : Sl, e = .returned s.v ∧ SlOf 5 RowR W'.cell? s scalarsT ∧ Mod NoB W W' := by
  refine of_instr_scalars _ _ ?_
  unfold V_instr_scalars
  refine Na.mk fun b W1 hb hm hs hc => ?_
  exact ⟨⟨some ⟨b, 0, none⟩, 42, 42⟩, rfl, rows_read (xs := scalarsT) hc, hm⟩
theorem vectors_spec (W : World) : Calls Tryd.prog f_instr_vectors #[] W fun e W' => ∃ s : Sl, e = .returned s.v ∧ SlOf 5 RowR W'.cell? s vectorsT ∧ Mod NoB W W' := by
  refine of_instr_vectors _ _ ?_
  unfold V_instr_vectors
  refine Na.mk fun b W1 hb hm hs hc => ?_
  exact ⟨⟨some ⟨b, 0, none⟩, 66, 66⟩, rfl, rows_read (xs := vectorsT) hc, hm⟩

/-! ### Strings as bytes -/
theorem byteCells_letters (s : ByteArray) : byteCells s = bv (letters s) := by unfold byteCells bv letters; rw [List.map_map]; rfl
theorem letters_len (s : ByteArray) : (letters s).length = s.size := by unfold letters; rw [List.length_map, Array.length_toList]; rfl
theorem conv_bytes {W : World} {s : ByteArray} {K : Value → World → Prop}
    (hk : ∀ (t : Sl) W', Bytes W'.cell? t (letters s) → Mod NoB W W' → (∀ b, t.isB b → W.heap.size ≤ b) → K t.v W') : RunV Tryd.prog (convert 9 59 (.string s)) W K := by
  unfold RunV
  rw [run_bytes_of_string (P := Tryd.prog) W 9 59 5 s (by kernel_rfl) (by kernel_rfl) (by kernel_rfl)]
  refine hk ⟨some ⟨W.heap.size, 0, none⟩, s.size, _⟩ _ ⟨(letters_len s).symm, fun i x hx => ⟨_, rfl, ?_⟩⟩ ((Mod.drew _ W).transS (Mod.alloc _ _ _)) (by rintro b ⟨q, hq, rfl⟩; cases hq; exact Nat.le_refl _)
  rw [add_mk]
  refine cell_of_heap (cs := bytesRow s (grownCap W s.size 0 5)) (by show (W.heap.push _)[W.heap.size]? = _; rw [Array.getElem?_push_size]) ?_
  unfold bytesRow
  have hlt : i < s.data.size := by
    have := List.getElem?_eq_some_iff.1 hx
    obtain ⟨h, _⟩ := this
    rw [letters_len] at h
    exact h
  rw [Array.getElem?_append_left (by simpa using hlt)]
  unfold letters at hx
  simp only [List.getElem?_map, Array.getElem?_toList, Array.getElem?_map] at hx ⊢
  cases hy : s.data[0 + i * 1]? with
  | none => rw [Nat.zero_add, Nat.mul_one] at hy; rw [hy] at hx; simp at hx
  | some y => rw [Nat.zero_add, Nat.mul_one] at hy; rw [hy] at hx; simp at hx; simp [hx]
end Go.Proofs.YtacjnpahlbibhaaDoor

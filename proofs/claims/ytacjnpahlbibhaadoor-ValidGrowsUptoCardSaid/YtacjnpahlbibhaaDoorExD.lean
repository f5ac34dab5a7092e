/- Contracts: pair.Join, expr.constant. -/
import Derived.Test.YtacjnpahlbibhaaDoorExC
set_option linter.unusedVariables false
set_option linter.unusedSimpArgs false
set_option maxRecDepth 100000
namespace Go.Proofs.YtacjnpahlbibhaaDoor
open Go Go.RowKit

theorem fdivB (x : Int) {i : Nat} (hi : i < 8) : IntKind.wrap .u8 (Int.fdiv x (2 ^ (min ((IntKind.wrap .i64 (8 * (i : Int))) : Int).toNat (IntKind.bits .u64)))) = byteAt x i := by
  have h1 : (IntKind.wrap .i64 (8 * (i : Int))) = ((8 * i : Nat) : Int) := by rw [wrap_id (by omega) (by omega)]; omega
  rw [h1]
  have h2 : min (((8 * i : Nat) : Int)).toNat (IntKind.bits .u64) = 8 * i := by
    rw [Int.toNat_natCast]
    show min (8 * i) 64 = _
    omega
  rw [h2, wrap_u8, Int.fdiv_eq_ediv_of_nonneg _ (Int.le_of_lt (Int.pow_pos (by omega)))]
  rfl
theorem setL_size : ∀ (vs : List Value) (cs : Array Value) (o : Nat), (setL cs o vs).size = cs.size := by
  intro vs
  induction vs with
  | nil => intro cs o; rfl
  | cons v vs ih => intro cs o; rw [setL, ih]; simp
theorem setL_get : ∀ (vs : List Value) (cs : Array Value) (o j : Nat), o + vs.length ≤ cs.size → (setL cs o vs)[j]? = if o ≤ j ∧ j < o + vs.length then vs[j - o]? else cs[j]? := by
  intro vs
  induction vs with
  | nil => intro cs o j h; rw [if_neg (by simp)]; rfl
  | cons v vs ih =>
    intro cs o j h
    simp only [List.length_cons] at h
    rw [setL, ih _ _ _ (by simp; omega)]
    simp only [Array.getElem?_setIfInBounds, List.length_cons]
    by_cases hj : j = o
    · subst hj; rw [if_neg (by omega), if_pos rfl, if_pos (by omega), if_pos (by omega)]; simp
    · by_cases hj2 : o + 1 ≤ j ∧ j < o + 1 + vs.length
      · rw [if_pos hj2, if_pos (by omega), show j - o = (j - (o + 1)) + 1 from by omega]; rfl
      · rw [if_neg hj2, if_neg (fun e => hj e.symm), if_neg (by omega)]
/-- All cells set. -/
theorem setL_all {vs : List Value} {cs : Array Value} (h : cs.size = vs.length) : setL cs 0 vs = vs.toArray := by
  apply Array.ext_getElem?
  intro j
  rw [setL_get _ _ _ _ (by omega)]
  by_cases hj : j < vs.length
  · rw [if_pos (by omega), Nat.sub_zero]; simp
  · rw [if_neg (by omega), Array.getElem?_eq_none (by omega), Array.getElem?_eq_none (by simp; omega)]
theorem Join_spec (W : World) (x y : Int) : Calls Tryd.prog f_pair_Join #[.agg #[.int .u64 x, .int .u64 y]] W fun e W' => e = .returned (.agg (bv (joinB x y)).toArray) ∧ Mod NoB W W' := by
  refine of_pair_Join _ _ _ _ ?_
  unfold V_pair_Join
  refine Na.mk fun b1 W1 hb1 hm1 hs1 hc1 => ?_
  refine Na.mk fun b2 W2 hb2 hm2 hs2 hc2 => ?_
  refine Na.mk fun b3 W3 hb3 hm3 hs3 hc3 => ?_
  intro L hL
  have h1 := (hm2.trans0 hm3).heap hc1 (fun h => h)
  have h2 := hm3.heap hc2 (fun h => h)
  have l1 := heap_lt hc1
  have l2 := heap_lt hc2
  have key : ∀ (n i : Nat) (W4 : World) (cs : Array Value), n = 8 - i → i ≤ 8 → W4.heap[b3]? = some (.cells cs 152 (0, 0)) → cs.size = 16 → Mod (fun k => k = b3) W3 W4 →
      (∀ j, j < i → cs[j]? = some (.int .u8 (byteAt x j))) → (∀ j, j < i → cs[8 + j]? = some (.int .u8 (byteAt y j))) → L (i : Int) W4 := by
    intro n
    induction n with
    | zero =>
      intro i W4 cs hn hi h3 hsz hm4 hlo hhi
      have hi : i = 8 := by omega
      subst hi
      refine hL _ _ (Br.dec (fun h => by omega) (fun _ => ?_))
      refine ⟨byteAt x 0, cell_of_heap h3 (hlo 0 (by omega)), byteAt x 1, cell_of_heap h3 (hlo 1 (by omega)), byteAt x 2, cell_of_heap h3 (hlo 2 (by omega)), byteAt x 3, cell_of_heap h3 (hlo 3 (by omega)),
        byteAt x 4, cell_of_heap h3 (hlo 4 (by omega)), byteAt x 5, cell_of_heap h3 (hlo 5 (by omega)), byteAt x 6, cell_of_heap h3 (hlo 6 (by omega)), byteAt x 7, cell_of_heap h3 (hlo 7 (by omega)),
        byteAt y 0, cell_of_heap h3 (hhi 0 (by omega)), byteAt y 1, cell_of_heap h3 (hhi 1 (by omega)), byteAt y 2, cell_of_heap h3 (hhi 2 (by omega)), byteAt y 3, cell_of_heap h3 (hhi 3 (by omega)),
        byteAt y 4, cell_of_heap h3 (hhi 4 (by omega)), byteAt y 5, cell_of_heap h3 (hhi 5 (by omega)), byteAt y 6, cell_of_heap h3 (hhi 6 (by omega)), byteAt y 7, cell_of_heap h3 (hhi 7 (by omega)), ?_⟩
      have h2' := hm4.heap h2 (fun e => by omega)
      refine stC_at (b := b2) (o := 0) rfl h2' (by simp) (by simp [Value.oneCell']) (fun W7 h7 m7 sz7 => ?_)
      rw [setL_all (by simp)] at h7
      refine ⟨_, cell_of_heap h7 rfl, _, cell_of_heap h7 rfl, _, cell_of_heap h7 rfl, _, cell_of_heap h7 rfl, _, cell_of_heap h7 rfl, _, cell_of_heap h7 rfl, _, cell_of_heap h7 rfl, _, cell_of_heap h7 rfl,
        _, cell_of_heap h7 rfl, _, cell_of_heap h7 rfl, _, cell_of_heap h7 rfl, _, cell_of_heap h7 rfl, _, cell_of_heap h7 rfl, _, cell_of_heap h7 rfl, _, cell_of_heap h7 rfl, _, cell_of_heap h7 rfl, rfl, ?_⟩
      have := hm1.size; have := hm2.size; have := hm3.size
      exact (((hm1.trans0 hm2).trans0 hm3).trans hm4 (fun i hi e => by omega)).trans m7 (fun i hi e => by omega)
    | succ n ih =>
      intro i W4 cs hn hi h3 hsz hm4 hlo hhi
      have hi8 : i < 8 := by omega
      refine hL _ _ (Br.dec (fun _ => ?_) (fun h => by omega))
      have h1' := hm4.heap h1 (fun e => by omega)
      have w1 : (IntKind.wrap .i64 (8 * (i : Int))) = ((8 * i : Nat) : Int) := by rw [wrap_id (by omega) (by omega)]; omega
      have w2 : (IntKind.wrap .i64 (8 + (i : Int))) = ((8 + i : Nat) : Int) := by rw [wrap_id (by omega) (by omega)]; omega
      have w3 : (IntKind.wrap .i64 ((i : Int) + 1)) = ((i + 1 : Nat) : Int) := by rw [wrap_id (by omega) (by omega)]; omega
      refine ⟨x, cell_of_heap h1' rfl, by rw [w1]; omega, ⟨by omega, by omega⟩, ?_⟩
      rw [fdivB x hi8, w2, w3, w1]
      refine stC_at (b := b3) (o := i) (by rw [add_mk]; simp) h3 (by simp; omega) (by simp [Value.oneCell']) (fun W5 h5 m5 sz5 => ?_)
      have h15 := m5.heap h1' (fun e => by omega)
      refine ⟨y, cell_of_heap h15 rfl, by omega, ⟨by omega, by omega⟩, ?_⟩
      rw [← w1, fdivB y hi8]
      refine stC_at (b := b3) (o := 8 + i) (by rw [add_mk]; simp) h5 (by simp [setL]; omega) (by simp [Value.oneCell']) (fun W6 h6 m6 sz6 => ?_)
      refine ih (i + 1) W6 _ (by omega) (by omega) h6 (by simp [setL, hsz]) ((hm4.transS m5).transS m6) ?_ ?_
      · intro j hj
        simp only [setL, Array.getElem?_setIfInBounds, Array.size_setIfInBounds, hsz]
        rw [if_neg (by omega)]
        by_cases he : i = j
        · subst he; rw [if_pos rfl, if_pos (by omega)]
        · rw [if_neg he]; exact hlo j (by omega)
      · intro j hj
        simp only [setL, Array.getElem?_setIfInBounds, Array.size_setIfInBounds, hsz]
        by_cases he : i = j
        · subst he; rw [if_pos rfl, if_pos (by omega)]
        · rw [if_neg (by omega), if_neg (by omega)]; exact hhi j (by omega)
  exact key 8 0 W3 _ rfl (by omega) hc3 rfl (Mod.refl _ _) (fun j hj => by omega) (fun j hj => by omega)
end Go.Proofs.YtacjnpahlbibhaaDoor

/- ValidGrows: the runs that copy types, globals, codes, a body. -/
import Derived.Test.YtacjnpahlbibhaaDoorGrE
set_option linter.unusedVariables false
set_option linter.unusedSimpArgs false
set_option maxRecDepth 100000
namespace Go.Proofs.YtacjnpahlbibhaaDoor
open Go Go.RowKit

/-- A new block's parts, as a source. -/
theorem blk_src {sz n : Nat} {tx e' e : TypeId} (hu : Program.underlying Tryd.prog tx = some (.slice e')) {W : World} {b : Nat} {vs : List Value} (h : W.heap[b]? = some (.cells vs.toArray e (0, 0))) (hl : vs.length = n * sz) (h1 : ∀ u ∈ vs, u.oneCell' = true) :
    Src Tryd.prog sz tx (⟨some ⟨b, 0, none⟩, n, n⟩ : Sl).v n vs W := by
  refine Src.read (s := ⟨some ⟨b, 0, none⟩, n, n⟩) hu hl (fun j u hj => ⟨_, rfl, ?_⟩) h1
  rw [add_mk, Nat.zero_add]
  refine cell_of_heap h ?_
  simpa using hj
def sNewC (b : Nat) : List Value := [(⟨some ⟨b, 0, none⟩, 1, 1⟩ : Sl).v, (⟨none, 0, 0⟩ : Sl).v]
def gNewC (b : Nat) : List Value := [.int .i64 123, .bool false, (⟨some ⟨b, 0, none⟩, 2, 2⟩ : Sl).v]
section
variable {W : World} {b2 b6 : Nat} {S : MSl} {m : Module} {r : Rd}
theorem app_types (h2 : W.heap[b2]? = some (.cells (ModC S m) 32 (0, 0))) (hr : Sub r W) (hm : ModR r S m) (hl : m.types.length ≤ 1000) {K : World → Prop}
    (hk : ∀ (s : Sl) (b40 : Nat) (vs : List Value) (W' : World), CopyOf 2 SigR r m.types vs → Now W W' 37 2 s (vs ++ sNewC b40) → W.heap.size ≤ b40 → W'.heap[b40]? = some (.cells #[.int .i64 123] 3 (0, 0)) → stC W' ((⟨b6, 0, none⟩ : Addr).add 0) [s.v] 0 K) :
    Na W #[] 37 fun q36 W6 =>
      ∃ s38 : Sl, W6.cell? ((⟨b2, 0, none⟩ : Addr).add 0) = some s38.v ∧
      RunV Tryd.prog (Builtin.append_ #[22, 22] 22 #[(.slice (some q36) 0 0), s38.v]) W6 fun v W7 => ∃ s39 : Sl, v = s39.v ∧
      Na W7 #[(.int .i64 123)] 3 fun q40 W8 =>
      Na W8 #[(.slice (some q40) 1 1), (.slice none 0 0)] 37 fun q42 W9 =>
      RunV Tryd.prog (Builtin.append_ #[22, 22] 22 #[s39.v, (.slice (some q42) 1 1)]) W9 fun v W10 => ∃ s43 : Sl, v = s43.v ∧
      stC W10 ((⟨b6, 0, none⟩ : Addr).add 0) [s43.v] 0 K := by
  refine Na.mk fun b36 W6 hb36 hm6 hz6 hc6 => ?_
  refine ⟨S.types, mod_cells (hm6.heap h2 (fun h => h)) rfl, ?_⟩
  have n6 : Now W W6 37 2 ⟨some ⟨b36, 0, none⟩, 0, 0⟩ [] := Now.start (cs := #[]) hb36 hm6 hc6 (by simp) (by unfold maxLen; omega)
  obtain ⟨vs, hcv, hsrc⟩ := copy_src (W := W6) (by omega) hm.types (fun q x h => h.some) tyf_sl_Sig.und (hr.mod0 hm6)
  refine n6.app tyf_sl_Sig rfl hsrc (by omega) (by simp only; omega) (fun s39 W7 n7 hl7 m7 => ⟨s39, rfl, ?_⟩)
  rw [List.nil_append] at n7
  refine Na.mk fun b40 W8 hb40 hm8 hz8 hc8 => ?_
  refine Na.mk fun b42 W9 hb42 hm9 hz9 hc9 => ?_
  have n9 := (n7.mod0 hm8).mod0 hm9
  have c40 := hm9.heap hc8 (fun h => h)
  have sz7 := n7.mod.size
  have hl39 : s39.len ≤ 1000 := by rw [hl7]; simp only; omega
  refine n9.app tyf_sl_Sig rfl (blk_src (sz := 2) (n := 1) (vs := sNewC b40) tyf_sl_Sig.und hc9 rfl (by intro u hu; simp [sNewC] at hu; rcases hu with rfl | rfl <;> rfl)) (by omega) (by omega) (fun s43 W10 n10 hl10 m10 => ⟨s43, rfl, ?_⟩)
  exact hk s43 b40 vs W10 hcv n10 (by omega) (m10.heap c40 (fun y => by have := n7.own.lt y; omega))
theorem app_globals (h2 : W.heap[b2]? = some (.cells (ModC S m) 32 (0, 0))) (hr : Sub r W) (hm : ModR r S m) (hl : m.globals.length ≤ 1000) {K : World → Prop}
    (hk : ∀ (s : Sl) (b51 : Nat) (vs : List Value) (W' : World), CopyOf 3 GlobalR r m.globals vs → Now W W' 43 3 s (vs ++ gNewC b51) → W.heap.size ≤ b51 →
      W'.heap[b51]? = some (.cells #[(.int .i64 64780), (.int .i64 0), (.int .i64 0), (.int .u64 0), (.int .u64 0), (.slice none 0 0), (.int .i64 11), (.int .i64 0), (.int .i64 0), (.int .u64 0), (.int .u64 0), (.slice none 0 0)] 40 (0, 0)) → stC W' ((⟨b6, 0, none⟩ : Addr).add 5) [s.v] 0 K) :
    Na W #[] 43 fun q45 W12 =>
      ∃ s47 : Sl, W12.cell? ((⟨b2, 0, none⟩ : Addr).add 5) = some s47.v ∧
      RunV Tryd.prog (Builtin.append_ #[26, 26] 26 #[(.slice (some q45) 0 0), s47.v]) W12 fun v W13 => ∃ s48 : Sl, v = s48.v ∧
      Na W13 #[(.int .i64 64780), (.int .i64 0), (.int .i64 0), (.int .u64 0), (.int .u64 0), (.slice none 0 0), (.int .i64 11), (.int .i64 0), (.int .i64 0), (.int .u64 0), (.int .u64 0), (.slice none 0 0)] 40 fun q51 W14 =>
      Na W14 #[(.int .i64 123), (.bool false), (.slice (some q51) 2 2)] 43 fun q53 W15 =>
      RunV Tryd.prog (Builtin.append_ #[26, 26] 26 #[s48.v, (.slice (some q53) 1 1)]) W15 fun v W16 => ∃ s54 : Sl, v = s54.v ∧
      stC W16 ((⟨b6, 0, none⟩ : Addr).add 5) [s54.v] 0 K := by
  refine Na.mk fun b36 W6 hb36 hm6 hz6 hc6 => ?_
  refine ⟨S.globals, mod_cells (hm6.heap h2 (fun h => h)) rfl, ?_⟩
  have n6 : Now W W6 43 3 ⟨some ⟨b36, 0, none⟩, 0, 0⟩ [] := Now.start (cs := #[]) hb36 hm6 hc6 (by simp) (by unfold maxLen; omega)
  obtain ⟨vs, hcv, hsrc⟩ := copy_src (W := W6) (by omega) hm.globals (fun q x h => h.some) tyf_sl_Global.und (hr.mod0 hm6)
  refine n6.app tyf_sl_Global rfl hsrc (by omega) (by simp only; omega) (fun s39 W7 n7 hl7 m7 => ⟨s39, rfl, ?_⟩)
  rw [List.nil_append] at n7
  refine Na.mk fun b40 W8 hb40 hm8 hz8 hc8 => ?_
  refine Na.mk fun b42 W9 hb42 hm9 hz9 hc9 => ?_
  have n9 := (n7.mod0 hm8).mod0 hm9
  have c40 := hm9.heap hc8 (fun h => h)
  have sz7 := n7.mod.size
  have hl39 : s39.len ≤ 1000 := by rw [hl7]; simp only; omega
  refine n9.app tyf_sl_Global rfl (blk_src (sz := 3) (n := 1) (vs := gNewC b40) tyf_sl_Global.und hc9 rfl (by intro u hu; simp [gNewC] at hu; rcases hu with rfl | rfl | rfl <;> rfl)) (by omega) (by omega) (fun s43 W10 n10 hl10 m10 => ⟨s43, rfl, ?_⟩)
  exact hk s43 b40 vs W10 hcv n10 (by omega) (m10.heap c40 (fun y => by have := n7.own.lt y; omega))
theorem app_codes (h2 : W.heap[b2]? = some (.cells (ModC S m) 32 (0, 0))) (hr : Sub r W) (hm : ModR r S m) (hl : m.codes.length ≤ 1000) {K : World → Prop}
    (hk : ∀ (s : Sl) (vs : List Value) (W' : World), CopyOf 2 FCodeR r m.codes vs → Now W W' 46 2 s vs → stC W' ((⟨b6, 0, none⟩ : Addr).add 9) [s.v] 0 K) :
    Na W #[] 46 fun q65 W20 =>
      ∃ s67 : Sl, W20.cell? ((⟨b2, 0, none⟩ : Addr).add 9) = some s67.v ∧
      RunV Tryd.prog (Builtin.append_ #[29, 29] 29 #[(.slice (some q65) 0 0), s67.v]) W20 fun v W21 => ∃ s68 : Sl, v = s68.v ∧
      stC W21 ((⟨b6, 0, none⟩ : Addr).add 9) [s68.v] 0 K := by
  refine Na.mk fun b36 W6 hb36 hm6 hz6 hc6 => ?_
  refine ⟨S.codes, mod_cells (hm6.heap h2 (fun h => h)) rfl, ?_⟩
  have n6 : Now W W6 46 2 ⟨some ⟨b36, 0, none⟩, 0, 0⟩ [] := Now.start (cs := #[]) hb36 hm6 hc6 (by simp) (by unfold maxLen; omega)
  obtain ⟨vs, hcv, hsrc⟩ := copy_src (W := W6) (by omega) hm.codes (fun q x h => h.some) tyf_sl_Code.und (hr.mod0 hm6)
  refine n6.app tyf_sl_Code rfl hsrc (by omega) (by simp only; omega) (fun s39 W7 n7 hl7 m7 => ⟨s39, rfl, ?_⟩)
  rw [List.nil_append] at n7
  exact hk s39 vs W7 hcv n7
end
/-- Two instructions, and a body behind them. -/
theorem app_body {W W1 : World} {r : Rd} (hr : Sub r W1) {b : Nat} {x1 x2 : Instr} (hb : b = W.heap.size) (hm : Mod NoB W W1) (hc : W1.heap[b]? = some (.cells (insC x1 ++ insC x2).toArray 40 (0, 0))) {s : Sl} {l : List Instr} (hs : CodeR r s l) (hl : l.length ≤ 1073741824)
    {K : Value → World → Prop} (hk : ∀ (B : Sl) (vs : List Value) (W' : World), CopyOf 6 InstrR r l vs → Now W W' 40 6 B ((insC x1 ++ insC x2) ++ vs) → K B.v W') :
    RunV Tryd.prog (Builtin.append_ #[41, 41] 41 #[(.slice (some ⟨b, 0, none⟩) 2 2), s.v]) W1 K := by
  have n1 : Now W W1 40 6 ⟨some ⟨b, 0, none⟩, 2, 2⟩ (insC x1 ++ insC x2) := by
    have := Now.start (sz := 6) (n := 2) hb hm hc (by simp [insC]) (by unfold maxLen; omega)
    simpa using this
  obtain ⟨vs, hcv, hsrc⟩ := copy_src (W := W1) (by omega) hs (fun q x h => h.some) tyf_sl_Instr.und hr
  exact n1.app tyf_sl_Instr rfl hsrc (by omega) (by simp only; omega) (fun B W2 n2 hl2 m2 => hk B vs W2 hcv n2)
/-! ### Read back -/
theorem types_back {W : World} {X : Nat → Prop} {r : Rd} {T : Sl} {vs : List Value} {b40 : Nat} {xs : List Sig} (hT : Own W 37 2 T (vs ++ sNewC b40)) (c : CopyOf 2 SigR r xs vs) (hl : Le r (offS W X)) (hn : ∀ b, T.isB b → ¬ X b)
    (h40 : W.heap[b40]? = some (.cells #[.int .i64 123] 3 (0, 0))) (hn40 : ¬ X b40) : SlOf 2 SigR (offS W X) T (xs ++ [sNew]) := by
  refine back_append (by omega) (fun q q' x h he => h.move hl he) hT c (fun p v h hb => offS_of h (hn _ hb)) rfl (fun i y q hy he => ?_)
  match i, hy with
  | 0, hy =>
    simp at hy; subst hy
    refine ⟨⟨some ⟨b40, 0, none⟩, 1, 1⟩, ⟨none, 0, 0⟩, he 0 (by omega) _ rfl, he 1 (by omega) _ rfl, ⟨rfl, fun k z hz => ?_⟩, SlOf.nil _ _, by simp [sNew], by simp [sNew]⟩
    match k, hz with
    | 0, hz =>
      simp [sNew] at hz; subst hz
      refine ⟨_, rfl, offS_of (cell_of_heap h40 rfl) ?_⟩
      exact hn40
theorem globals_back {W : World} {X : Nat → Prop} {r : Rd} {T : Sl} {vs : List Value} {b51 : Nat} {xs : List Global} (hT : Own W 43 3 T (vs ++ gNewC b51)) (c : CopyOf 3 GlobalR r xs vs) (hl : Le r (offS W X)) (hn : ∀ b, T.isB b → ¬ X b)
    (h51 : W.heap[b51]? = some (.cells #[(.int .i64 64780), (.int .i64 0), (.int .i64 0), (.int .u64 0), (.int .u64 0), (.slice none 0 0), (.int .i64 11), (.int .i64 0), (.int .i64 0), (.int .u64 0), (.int .u64 0), (.slice none 0 0)] 40 (0, 0))) (hn51 : ¬ X b51) :
    SlOf 3 GlobalR (offS W X) T (xs ++ [gNew]) := by
  refine back_append (by omega) (fun q q' x h he => h.move hl he) hT c (fun p v h hb => offS_of h (hn _ hb)) rfl (fun i y q hy he => ?_)
  match i, hy with
  | 0, hy =>
    simp at hy; subst hy
    refine ⟨he 0 (by omega) _ rfl, he 1 (by omega) _ rfl, ⟨some ⟨b51, 0, none⟩, 2, 2⟩, he 2 (by omega) _ rfl, ⟨rfl, fun k z hz => ?_⟩⟩
    match k, hz with
    | 0, hz =>
      simp [gNew] at hz; subst hz
      refine ⟨_, rfl, InsN.instr (fun j v hv => ?_) ⟨rfl, by simp, by simp⟩⟩
      refine offS_of ?_ (by rw [add_block, add_block]; exact hn51)
      rw [add_add, add_mk]
      refine cell_of_heap h51 ?_
      have hj : j < 6 := lt_of_get hv
      match j, hj with
      | 0, _ => exact hv
      | 1, _ => exact hv
      | 2, _ => exact hv
      | 3, _ => exact hv
      | 4, _ => exact hv
      | 5, _ => exact hv
    | 1, hz =>
      simp [gNew] at hz; subst hz
      refine ⟨_, rfl, InsN.instr (fun j v hv => ?_) ⟨rfl, by simp, by simp⟩⟩
      refine offS_of ?_ (by rw [add_block, add_block]; exact hn51)
      rw [add_add, add_mk]
      refine cell_of_heap h51 ?_
      have hj : j < 6 := lt_of_get hv
      match j, hj with
      | 0, _ => exact hv
      | 1, _ => exact hv
      | 2, _ => exact hv
      | 3, _ => exact hv
      | 4, _ => exact hv
      | 5, _ => exact hv
end Go.Proofs.YtacjnpahlbibhaaDoor

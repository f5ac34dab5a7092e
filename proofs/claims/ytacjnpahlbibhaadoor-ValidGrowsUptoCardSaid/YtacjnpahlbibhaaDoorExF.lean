/- Contracts: expr.put. -/
import Derived.Test.YtacjnpahlbibhaaDoorExE
set_option linter.unusedVariables false
set_option linter.unusedSimpArgs false
set_option maxRecDepth 100000
namespace Go.Proofs.YtacjnpahlbibhaaDoor
open Go Go.RowKit

/-- Bytes written so far, and memory that is read meanwhile. -/
structure Fr (W0 : World) (r : Rd) (W : World) (s : Sl) (xs : List Int) : Prop where
  fw : Fw W0 W s xs
  rds : Rds r W s.isB
theorem Fr.mod0 {W0 W W' : World} {r : Rd} {s : Sl} {xs : List Int} (h : Fr W0 r W s xs) (m : Mod NoB W W') : Fr W0 r W' s xs := ⟨h.fw.mod0 m, h.rds.mod0 m⟩
theorem Fr.app {W0 W : World} {r : Rd} {s : Sl} {xs : List Int} (h : Fr W0 r W s xs) {t : Value} {tx ty : TypeId} {ys : List Int} (hs : Src Tryd.prog 1 tx t ys.length (bv ys) W) (hl : xs.length + ys.length ≤ big) {K : Value → World → Prop}
    (hk : ∀ s' W', Fr W0 r W' s' (xs ++ ys) → K s'.v W') : RunV Tryd.prog (Builtin.append_ #[ty_sl_uint8, tx] ty #[s.v, t]) W K :=
  h.fw.app hs hl (fun s' W' h' hm hb => hk s' W' ⟨h', h.rds.step hm hb⟩)
theorem Fr.sub {W0 W : World} {r : Rd} {s : Sl} {xs : List Int} (h : Fr W0 r W s xs) {p : Addr} {v : Value} (hp : r p = some v) : W.cell? p = some v := h.rds.sub p v hp
theorem Fr.putU {W0 W : World} {r : Rd} {s : Sl} {xs : List Int} (h : Fr W0 r W s xs) {b : Nat} {x : Int} {e : TypeId} (hc : W.heap[b]? = some (.cells #[.int .u64 (IntKind.wrap .u64 x)] e (0, 0))) {K : Sl → World → Prop}
    (hk : ∀ (t : Sl) W', Own W' ty_uint8 1 t (bv (numE x).b) → Fr W0 r W' s xs → Mod NoB W W' → (∀ b, t.isB b → W.heap.size ≤ b) → K t W') : CallV Tryd.prog f_leb_PutU #[.slice (some ⟨b, 0, none⟩) 1 1] W (fun v W' => ∃ s : Sl, v = s.v ∧ K s W') := by
  rw [wrap_u64] at hc
  refine CallV.mk ent_leb_PutU (PutU_spec (s := ⟨some ⟨b, 0, none⟩, 1, 1⟩) (Sub.self W) (one_int hc) (by intro y hy; simp at hy; subst hy; omega) (by simp)) ?_
  rintro e W' ⟨t, rfl, ho, hm, hb⟩
  exact ⟨_, rfl, t, rfl, hk t W' (by simpa [numE] using ho) (h.mod0 hm) hm hb⟩
theorem number_call {W : World} {n : Int} {K : Bool → World → Prop} (hk : K (isNum n) W) : CallV Tryd.prog f_expr_number #[.int .i64 n] W (fun v W' => ∃ b : Bool, v = .bool b ∧ K b W') := by
  refine CallV.mk ent_expr_number (number_spec W n) ?_
  rintro e W' ⟨rfl, rfl⟩
  exact ⟨_, rfl, _, rfl, hk⟩
def PutPost (W : World) (x : Instr) (A : E) : Ending → World → Prop := fun e W' => ∃ t : Sl, e = .returned (.tuple #[t.v, .bool A.ok]) ∧ Fw W W' t (opB x.op ++ A.b)
theorem opB_len {op : Int} (h : 0 ≤ op ∧ op ≤ 64991) : (opB op).length ≤ 11 := by
  unfold opB
  split
  · have : (lebU (op - 64768).toNat).length ≤ 10 := lebU_len10 (by omega)
    simp; omega
  · simp
theorem Fr.post {W0 W : World} {r : Rd} {x : Instr} {A : E} {s : Sl} {ys : List Int} {b : Bool} (h : Fr W0 r W s (opB x.op ++ ys)) (hy : ys = A.b) (hb : b = A.ok) : PutPost W0 x A (.returned (.tuple #[s.v, .bool b])) W :=
  ⟨s, by rw [hb], by rw [← hy]; exact h.fw⟩
end Go.Proofs.YtacjnpahlbibhaaDoor

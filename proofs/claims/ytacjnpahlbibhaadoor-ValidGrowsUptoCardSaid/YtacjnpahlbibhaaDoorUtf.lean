/- The library's utf8.ValidString, laid at this program; the output's method name. -/
import Derived.Test.YtacjnpahlbibhaaDoorExI
import Derived.Test.YtacjnpahlbibhaaDoorLayU
import Derived.Shelf.Unicode.ValidAny
set_option linter.unusedVariables false
set_option linter.unusedSimpArgs false
set_option maxRecDepth 100000
namespace Go.Proofs.YtacjnpahlbibhaaDoor
open Go Go.RowKit
/-- The library's tables stand where they're read. -/
def TabsR (r : Rd) : Prop :=
  (∀ c, c < 256 → r ⟨0, c, none⟩ = some (.int .u8 (Lib.firstT c))) ∧
  (∀ i, i < 16 → r ⟨1, 2 * i, none⟩ = some (.int .u8 (Lib.accLo i)) ∧ r ⟨1, 2 * i + 1, none⟩ = some (.int .u8 (Lib.accHi i)))
theorem TabsR.tabs {r : Rd} {W : World} (h : TabsR r) (hr : Sub r W) : Lib.Utf8Tabs 0 1 W :=
  ⟨fun c hc => hr _ _ (h.1 c hc), fun i hi => ⟨hr _ _ (h.2 i hi).1, hr _ _ (h.2 i hi).2⟩⟩
theorem TabsR.mono {r r' : Rd} (h : TabsR r) (hl : Le r r') : TabsR r' :=
  ⟨fun c hc => hl _ _ (h.1 c hc), fun i hi => ⟨hl _ _ (h.2 i hi).1, hl _ _ (h.2 i hi).2⟩⟩
theorem Mod.ofBelow {w w' : World} (h : Below w.heap.size w w') : Mod NoB w w' := ⟨h.os, h.tape, h.output, h.size, fun k hk _ => h.block k hk⟩
def utfOk (s : ByteArray) : Bool := Lib.validD s.data.toList
theorem ValidString_spec {W : World} {r : Rd} (ht : TabsR r) (hr : Sub r W) {s : ByteArray} (hs : s.size ≤ big) : Calls Tryd.prog f_utf8_ValidString #[.string s] W fun e W' => e = .returned (.bool (utfOk s)) ∧ Mod NoB W W' :=
  (Any.utf8_ValidString Tryd.laysValid s W (by unfold big at hs; omega) (ht.tabs hr)).mono (fun e W' h => ⟨h.1, Mod.ofBelow h.2⟩)

def nameE (s : ByteArray) : E := E.app ⟨[], utfOk s⟩ ((numE s.size).app ⟨letters s, true⟩)
theorem nameE_len (s : ByteArray) : (nameE s).b.length ≤ s.size + 10 := by
  have := numE_len s.size
  have := letters_len s
  unfold nameE
  simp only [E.app_b, List.length_append, List.length_nil]; omega
theorem string_src {W : World} (s : ByteArray) : Src Tryd.prog 1 9 (.string s) (letters s).length (bv (letters s)) W := by
  rw [letters_len, ← byteCells_letters]
  exact Src.ofString (P := Tryd.prog) W (show Program.underlying Tryd.prog 9 = some .string from by kernel_rfl) s
theorem name_spec {W : World} {q : Addr} {F : Nat → Prop} {bs : List Int} {bad : Bool} (h : OutAt W q F bs bad) {r : Rd} (hr : Rds r W F) (ht : TabsR r) {s : ByteArray} (hl : bs.length + s.size + 10 ≤ big) :
    Calls Tryd.prog f_encode_out_name #[.pointer (some q), .string s] W (OutPost W q F (bs ++ (nameE s).b) (bad || !(nameE s).ok)) := by
  refine of_encode_out_name _ _ _ _ ?_
  unfold V_encode_out_name
  refine CallV.mk ent_utf8_ValidString (ValidString_spec ht hr.sub (by omega)) ?_
  rintro e W1 ⟨rfl, hm1⟩
  refine ⟨_, rfl, utfOk s, rfl, ?_⟩
  refine ((OutSt.start h).mod0 hm1).must (ok := utfOk s) (fun W2 F2 hst2 m2 g2 => ⟨rfl, ?_⟩)
  have hn := numE_len s.size
  refine hst2.num (by simp [E.app, E.nil]; omega) (fun W3 F3 hst3 m3 g3 => ⟨rfl, ?_⟩)
  obtain ⟨s0, d0, _⟩ := hst3.out.open
  refine ⟨q, rfl, s0, d0, ?_⟩
  refine hst3.tail d0 (string_src s) (by rw [letters_len]; simp [E.app, E.nil]; omega) (fun W4 F4 hst4 m4 g4 => ?_)
  have := hst4.done
  rw [E.nil_app, E.app_assoc] at this
  exact this
theorem OutSt.name {W0 W : World} {q : Addr} {F0 F : Nat → Prop} {bs : List Int} {bad : Bool} {x : E} (h : OutSt W0 q F0 bs bad x W F) {r : Rd} (hr : Rds r W F) (ht : TabsR r) {s : ByteArray}
    (hl : bs.length + x.b.length + s.size + 10 ≤ big) {K : Value → World → Prop} (hk : ∀ W' F', OutSt W0 q F0 bs bad (x.app (nameE s)) W' F' → Mod F W W' → Grows F W F' → K (.tuple #[]) W') :
    CallV Tryd.prog f_encode_out_name #[.pointer (some q), .string s] W K :=
  h.step ent_encode_out_name (bs' := (nameE s).b) (ok := (nameE s).ok) (name_spec h.out hr ht (by rw [List.length_append]; omega)) hk
end Go.Proofs.YtacjnpahlbibhaaDoor

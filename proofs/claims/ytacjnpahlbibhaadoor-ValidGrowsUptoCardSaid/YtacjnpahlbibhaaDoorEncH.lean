import Derived.Test.YtacjnpahlbibhaaDoorUtf
import Derived.Test.YtacjnpahlbibhaaDoorMdlE
section
/- Contracts: a module's parts, one by one: the closures of encode.Encode, encode.global. -/
set_option linter.unusedVariables false
set_option linter.unusedSimpArgs false
set_option maxRecDepth 100000
namespace Go.Proofs.YtacjnpahlbibhaaDoor
open Go Go.RowKit

/-- A part's bytes, behind those so far. -/
def PartOk (g : FuncId) (v : Value) (r : Rd) (w : Nat) (x : E) : Prop :=
  (w ≤ big → x.b.length ≤ w) ∧ ∀ (W : World) (q : Addr) (F : Nat → Prop) (bs : List Int) (bad : Bool), OutAt W q F bs bad → Rds r W F → bs.length + w ≤ big → Calls Tryd.prog g #[.pointer (some q), v] W (OutPost W q F (bs ++ x.b) (bad || !x.ok))
/-- Something laid into a new block, read from there on. -/
theorem laid {W W1 : World} {F : Nat → Prop} {r : Rd} {b : Nat} {cs : Array Value} {e : TypeId} (hr : Rds r W F) (hF : ¬ F b) (hm : Mod NoB W W1) (hc : W1.heap[b]? = some (.cells cs e (0, 0))) :
    ∃ r', Rds r' W1 F ∧ Le r r' ∧ ∀ (i : Nat) (v : Value), cs[i]? = some v → r' ((⟨b, 0, none⟩ : Addr).add i) = some v :=
  ⟨offS W1 F, Rds.all _ _, hr.into hm, fun i v hv => by rw [add_mk]; exact offS_of (cell_of_heap hc (by rw [Nat.zero_add]; exact hv)) hF⟩
section
variable {W0 W : World} {q : Addr} {F0 F : Nat → Prop} {bs : List Int} {bad : Bool} {x : E}
/-- Bytes that stand somewhere. -/
theorem OutSt.bytesOf (h : OutSt W0 q F0 bs bad x W F) {r : Rd} (hr : Rds r W F) {s : Sl} {xs : List Int} (hx : Bytes r s xs) (hl : bs.length + x.b.length + xs.length ≤ big) {K : Value → World → Prop}
    (hk : ∀ W' F', OutSt W0 q F0 bs bad (x.app ⟨xs, true⟩) W' F' → Mod F W W' → Grows F W F' → K (.tuple #[]) W') : CallV Tryd.prog f_encode_out_bytes #[.pointer (some q), s.v] W K := by
  refine h.step ent_encode_out_bytes (bs' := xs) (ok := true) ?_ hk
  rw [Bool.not_true, Bool.or_false]
  exact bytes_spec h.out hr.sub hx (by rw [List.length_append]; omega)
/-- One type. -/
theorem OutSt.kind (h : OutSt W0 q F0 bs bad x W F) {n : Int} (hl : bs.length + x.b.length + 1 ≤ big) {K : Value → World → Prop}
    (hk : ∀ W' F', OutSt W0 q F0 bs bad (x.app (kindsE [n])) W' F' → Mod F W W' → Grows F W F' → K (.tuple #[]) W') :
    Na W #[.int .i64 n] ty_int fun a W1 => CallV Tryd.prog f_encode_out_kinds #[.pointer (some q), .slice (some a) 1 1] W1 K := by
  refine Na.mk fun b W1 hb hm hs hc => ?_
  have hst := h.mod0 hm
  have hnb : ¬ F b := fun hF => by have := h.out.lt hF; omega
  have hx : Ints (offS W1 F) ⟨some ⟨b, 0, none⟩, 1, 1⟩ [n] := by
    refine ⟨rfl, fun i y hy => ?_⟩
    cases i with
    | zero => simp at hy; subst hy; exact ⟨_, rfl, offS_of (cell_of_heap hc rfl) hnb⟩
    | succ i => simp at hy
  refine hst.kinds (s := ⟨some ⟨b, 0, none⟩, 1, 1⟩) (Rds.all W1 F) hx (by simpa using hl) (by simp) (fun W' F' h1 h2 h3 => ?_)
  obtain ⟨g1, g2⟩ := Mod.alloc_step hm h2 h3
  exact hk W' F' h1 g1 g2
theorem OutSt.end_ (h : OutSt W0 q F0 bs bad x W F) {y : E} (hy : x = y) : OutPost W0 q F0 (bs ++ y.b) (bad || !y.ok) (.returned (.tuple #[])) W := hy ▸ h.done
end

theorem sig_part {r : Rd} {s0 s1 : Sl} {x : Sig} (h0 : Ints r s0 x.ins) (h1 : Ints r s1 x.outs) (hn : x.ins.length ≤ 1099511627776 ∧ x.outs.length ≤ 1099511627776) : PartOk f_encode_Encode_1 (.agg #[s0.v, s1.v]) r (sigW x) (sigE x) := by
  have l1 := numE_len x.ins.length
  have l2 := numE_len x.outs.length
  have l3 := kindsE_len x.ins
  have l4 := kindsE_len x.outs
  unfold sigW
  refine ⟨fun _ => by unfold sigE; simp only [E.app_b, List.length_append, List.length_cons, List.length_nil]; omega, fun W q F bs bad h hr hl => ?_⟩
  refine of_encode_Encode_1 _ _ _ _ _ ?_
  unfold V_encode_Encode_1
  refine Na.mk fun b3 W1 hb3 hm1 hs1 hc1 => ?_
  obtain ⟨r', hr1, hle, hc⟩ := laid hr ((OutSt.start h).new (W' := W1) hb3) hm1 hc1
  have c0 := hc 0 s0.v rfl
  have c1 := hc 1 s1.v rfl
  have st1 := (OutSt.start h).mod0 hm1
  have e0 : (s0.len : Int) = x.ins.length := by rw [h0.1]
  have e1 : (s1.len : Int) = x.outs.length := by rw [h1.1]
  refine ⟨s0, hr1.sub _ _ c0, s1, fun _ => hr1.sub _ _ c1, ?_⟩
  rw [e0, e1]
  refine st1.must (fun W2 F2 st2 m2 g2 => ⟨rfl, ?_⟩)
  have hr2 := hr1.step m2 g2
  refine st2.byte (by simp [E.app, E.nil]; omega) (fun W4 F4 st4 m4 g4 => ⟨rfl, s0, (hr2.step m4 g4).sub _ _ c0, ?_⟩)
  have hr4 := hr2.step m4 g4
  rw [e0]
  refine st4.num (by simp [E.app, E.nil]; omega) (fun W6 F6 st6 m6 g6 => ⟨rfl, s0, (hr4.step m6 g6).sub _ _ c0, ?_⟩)
  have hr6 := hr4.step m6 g6
  refine st6.kinds hr6 (Ints.mono h0 hle) (by simp [E.app, E.nil]; omega) hn.1 (fun W7 F7 st7 m7 g7 => ⟨rfl, s1, (hr6.step m7 g7).sub _ _ c1, ?_⟩)
  have hr7 := hr6.step m7 g7
  rw [e1]
  refine st7.num (by simp [E.app, E.nil]; omega) (fun W9 F9 st9 m9 g9 => ⟨rfl, s1, (hr7.step m9 g9).sub _ _ c1, ?_⟩)
  have hr9 := hr7.step m9 g9
  refine st9.kinds hr9 (Ints.mono h1 hle) (by simp [E.app, E.nil]; omega) hn.2 (fun W10 F10 st10 m10 g10 => ⟨rfl, st10.end_ ?_⟩)
  unfold sigE
  rw [E.nil_app]
def importE (x : Import) : E := (((nameE x.mod).app (nameE x.name)).app ⟨[0], true⟩).app (numE x.type)
def importW (x : Import) : Nat := 60 + x.mod.size + x.name.size
theorem import_part {r : Rd} (ht : TabsR r) (x : Import) : PartOk f_encode_Encode_2 (.agg #[.string x.mod, .string x.name, .int .i64 x.type]) r (importW x) (importE x) := by
  have l1 := nameE_len x.mod
  have l2 := nameE_len x.name
  have l3 := numE_len x.type
  unfold importW
  refine ⟨fun _ => by unfold importE; simp only [E.app_b, List.length_append, List.length_cons, List.length_nil]; omega, fun W q F bs bad h hr hl => ?_⟩
  refine of_encode_Encode_2 _ _ _ _ _ _ ?_
  unfold V_encode_Encode_2
  refine Na.mk fun b3 W1 hb3 hm1 hs1 hc1 => ?_
  obtain ⟨r', hr1, hle, hc⟩ := laid hr ((OutSt.start h).new (W' := W1) hb3) hm1 hc1
  have c0 := hc 0 _ rfl
  have c1 := hc 1 _ rfl
  have c2 := hc 2 _ rfl
  have st1 := (OutSt.start h).mod0 hm1
  have ht1 := ht.mono hle
  refine ⟨x.mod, hr1.sub _ _ c0, ?_⟩
  refine st1.name hr1 ht1 (by simp [E.nil]; omega) (fun W2 F2 st2 m2 g2 => ⟨rfl, x.name, (hr1.step m2 g2).sub _ _ c1, ?_⟩)
  have hr2 := hr1.step m2 g2
  refine st2.name hr2 ht1 (by simp [E.app, E.nil]; omega) (fun W3 F3 st3 m3 g3 => ⟨rfl, ?_⟩)
  have hr3 := hr2.step m3 g3
  refine st3.byte (by simp [E.app, E.nil]; omega) (fun W4 F4 st4 m4 g4 => ⟨rfl, x.type, (hr3.step m4 g4).sub _ _ c2, ?_⟩)
  refine st4.num (by simp [E.app, E.nil]; omega) (fun W5 F5 st5 m5 g5 => ⟨rfl, st5.end_ ?_⟩)
  unfold importE
  rw [E.nil_app]
theorem func_part {r : Rd} (x : Int) : PartOk f_encode_Encode_3 (.int .i64 x) r 10 (numE x) := by
  have l3 := numE_len x
  refine ⟨fun _ => l3, fun W q F bs bad h hr hl => ?_⟩
  refine of_encode_Encode_3 _ _ _ _ ?_
  unfold V_encode_Encode_3
  refine (OutSt.start h).num (by simp [E.nil]; omega) (fun W5 F5 st5 m5 g5 => ⟨rfl, st5.end_ (E.nil_app _)⟩)
theorem table_part {r : Rd} (x : Limits) : PartOk f_encode_Encode_4 (.agg #[.int .i64 x.min, .int .i64 x.max]) r 60 (tableE x) := by
  have l1 := limE_len x.min x.max 1024
  refine ⟨fun _ => by unfold tableE; simp only [E.app_b, List.length_append, List.length_cons, List.length_nil]; omega, fun W q F bs bad h hr hl => ?_⟩
  refine of_encode_Encode_4 _ _ _ _ _ ?_
  unfold V_encode_Encode_4
  refine Na.mk fun b3 W1 hb3 hm1 hs1 hc1 => ?_
  obtain ⟨r', hr1, hle, hc⟩ := laid hr ((OutSt.start h).new (W' := W1) hb3) hm1 hc1
  have c0 := hc 0 _ rfl
  have c1 := hc 1 _ rfl
  have st1 := (OutSt.start h).mod0 hm1
  refine st1.byte (by simp [E.nil]; omega) (fun W3 F3 st3 m3 g3 => ⟨rfl, _, (hr1.step m3 g3).sub _ _ c0, _, (hr1.step m3 g3).sub _ _ c1, ?_⟩)
  refine st3.limits (by simp [E.app, E.nil]; omega) (fun W4 F4 st4 m4 g4 => ⟨rfl, st4.end_ ?_⟩)
  unfold tableE
  rw [E.nil_app]
theorem mem_part {r : Rd} (x : Limits) : PartOk f_encode_Encode_5 (.agg #[.int .i64 x.min, .int .i64 x.max]) r 60 (memE x) := by
  have l1 := limE_len x.min x.max 16
  refine ⟨fun _ => by unfold memE; omega, fun W q F bs bad h hr hl => ?_⟩
  refine of_encode_Encode_5 _ _ _ _ _ ?_
  unfold V_encode_Encode_5
  refine Na.mk fun b3 W1 hb3 hm1 hs1 hc1 => ?_
  obtain ⟨r', hr1, hle, hc⟩ := laid hr ((OutSt.start h).new (W' := W1) hb3) hm1 hc1
  have c0 := hc 0 _ rfl
  have c1 := hc 1 _ rfl
  have st1 := (OutSt.start h).mod0 hm1
  refine ⟨_, hr1.sub _ _ c0, _, hr1.sub _ _ c1, ?_⟩
  exact st1.limits (by simp [E.nil]; omega) (fun W4 F4 st4 m4 g4 => ⟨rfl, st4.end_ (E.nil_app _)⟩)
theorem global_part {r : Rd} {s2 : Sl} {x : Global} (h2 : CodeR r s2 x.init) : PartOk f_encode_global (.agg #[.int .i64 x.type, .bool x.chg, s2.v]) r (globalW x) (globalE x) := by
  have l1 := kindsE_len [x.type]
  rw [List.length_singleton] at l1
  refine ⟨fun hw => ?_, fun W q F bs bad h hr hl => ?_⟩
  · unfold globalW at hw ⊢
    have := writeE_len (CodeR.range h2) (by omega)
    unfold globalE
    simp only [E.app_b, List.length_append, l1, List.length_cons, List.length_nil]; omega
  · refine of_encode_global _ _ _ _ _ _ ?_
    unfold V_encode_global
    unfold globalW at hl
    refine Na.mk fun b3 W1 hb3 hm1 hs1 hc1 => ?_
    obtain ⟨r', hr1, hle, hc⟩ := laid hr ((OutSt.start h).new (W' := W1) hb3) hm1 hc1
    have c0 := hc 0 _ rfl
    have c1 := hc 1 _ rfl
    have c2 := hc 2 s2.v rfl
    have st1 := (OutSt.start h).mod0 hm1
    have h2' : CodeR r' s2 x.init := SlOf.mono InstrR.mono hle h2
    refine ⟨x.type, hr1.sub _ _ c0, ?_⟩
    refine st1.kind (by simp [E.nil]; omega) (fun W3 F3 st3 m3 g3 => ⟨rfl, x.chg, (hr1.step m3 g3).sub _ _ c1, ?_⟩)
    have hr3 := hr1.step m3 g3
    refine Br.mk (fun hb => ?_) (fun hb => ?_)
    · refine st3.byte (by rw [E.nil_app]; omega) (fun W5 F5 st5 m5 g5 => ⟨rfl, s2, (hr3.step m5 g5).sub _ _ c2, ?_⟩)
      refine st5.expr (hr3.step m5 g5) h2' (by rw [E.nil_app, E.app_b, List.length_append, l1]; simp; omega) (fun W6 F6 st6 m6 g6 => ⟨rfl, st6.end_ ?_⟩)
      unfold globalE
      rw [E.nil_app, hb]; rfl
    · refine st3.byte (by rw [E.nil_app]; omega) (fun W5 F5 st5 m5 g5 => ⟨rfl, s2, (hr3.step m5 g5).sub _ _ c2, ?_⟩)
      refine st5.expr (hr3.step m5 g5) h2' (by rw [E.nil_app, E.app_b, List.length_append, l1]; simp; omega) (fun W6 F6 st6 m6 g6 => ⟨rfl, st6.end_ ?_⟩)
      unfold globalE
      rw [E.nil_app, hb]; rfl
def exportE (x : Export) : E := ((E.app ⟨[], decide (0 ≤ x.kind) && decide (x.kind ≤ 3)⟩ (nameE x.name)).app ⟨[x.kind % 256], true⟩).app (numE x.index)
def exportW (x : Export) : Nat := 60 + x.name.size
theorem export_part {r : Rd} (ht : TabsR r) (x : Export) : PartOk f_encode_Encode_6 (.agg #[.string x.name, .int .i64 x.kind, .int .i64 x.index]) r (exportW x) (exportE x) := by
  have l1 := nameE_len x.name
  have l3 := numE_len x.index
  unfold exportW
  refine ⟨fun _ => by unfold exportE; simp only [E.app_b, List.length_append, List.length_cons, List.length_nil]; omega, fun W q F bs bad h hr hl => ?_⟩
  refine of_encode_Encode_6 _ _ _ _ _ _ ?_
  unfold V_encode_Encode_6
  refine Na.mk fun b3 W1 hb3 hm1 hs1 hc1 => ?_
  obtain ⟨r', hr1, hle, hc⟩ := laid hr ((OutSt.start h).new (W' := W1) hb3) hm1 hc1
  have c0 := hc 0 _ rfl
  have c1 := hc 1 _ rfl
  have c2 := hc 2 _ rfl
  have st1 := (OutSt.start h).mod0 hm1
  have ht1 := ht.mono hle
  refine ⟨x.kind, hr1.sub _ _ c1, x.kind, fun _ => hr1.sub _ _ c1, ?_⟩
  refine st1.must (ok := decide (0 ≤ x.kind) && decide (x.kind ≤ 3)) (fun W2 F2 st2 m2 g2 => ⟨rfl, x.name, (hr1.step m2 g2).sub _ _ c0, ?_⟩)
  have hr2 := hr1.step m2 g2
  refine st2.name hr2 ht1 (by simp [E.app, E.nil]; omega) (fun W3 F3 st3 m3 g3 => ⟨rfl, x.kind, (hr2.step m3 g3).sub _ _ c1, ?_⟩)
  have hr3 := hr2.step m3 g3
  rw [wrap_u8]
  refine st3.byte (by simp [E.app, E.nil]; omega) (fun W4 F4 st4 m4 g4 => ⟨rfl, x.index, (hr3.step m4 g4).sub _ _ c2, ?_⟩)
  refine st4.num (by simp [E.app, E.nil]; omega) (fun W5 F5 st5 m5 g5 => ⟨rfl, st5.end_ ?_⟩)
  unfold exportE
  rw [E.nil_app]
theorem elem_part {r : Rd} {s0 s1 : Sl} {x : Elem} (h0 : CodeR r s0 x.offset) (h1 : Ints r s1 x.funcs) (hn : x.funcs.length ≤ 1099511627776) : PartOk f_encode_Encode_7 (.agg #[s0.v, s1.v]) r (elemW x) (elemE x) := by
  have l1 := numE_len x.funcs.length
  have l2 := numsE_len x.funcs
  have key : elemW x ≤ big → (writeE x.offset).b.length ≤ codeW x.offset := fun hw => writeE_len (CodeR.range h0) (by unfold elemW at hw; omega)
  refine ⟨fun hw => ?_, fun W q F bs bad h hr hl => ?_⟩
  · have := key hw
    unfold elemW elemE
    simp only [E.app_b, List.length_append, List.length_cons, List.length_nil]; omega
  · have l3 := key (by omega)
    unfold elemW at hl
    refine of_encode_Encode_7 _ _ _ _ _ ?_
    unfold V_encode_Encode_7
    refine Na.mk fun b3 W1 hb3 hm1 hs1 hc1 => ?_
    obtain ⟨r', hr1, hle, hc⟩ := laid hr ((OutSt.start h).new (W' := W1) hb3) hm1 hc1
    have c0 := hc 0 s0.v rfl
    have c1 := hc 1 s1.v rfl
    have st1 := (OutSt.start h).mod0 hm1
    have e1 : (s1.len : Int) = x.funcs.length := by rw [h1.1]
    refine ⟨s1, hr1.sub _ _ c1, ?_⟩
    rw [e1]
    refine st1.must (ok := decide ((x.funcs.length : Int) ≤ 1024)) (fun W2 F2 st2 m2 g2 => ⟨rfl, ?_⟩)
    have hr2 := hr1.step m2 g2
    refine st2.byte (by simp [E.app, E.nil]; omega) (fun W4 F4 st4 m4 g4 => ⟨rfl, s0, (hr2.step m4 g4).sub _ _ c0, ?_⟩)
    have hr4 := hr2.step m4 g4
    refine st4.expr hr4 (SlOf.mono InstrR.mono hle h0) (by simp [E.app, E.nil]; omega) (fun W5 F5 st5 m5 g5 => ⟨rfl, s1, (hr4.step m5 g5).sub _ _ c1, ?_⟩)
    have hr5 := hr4.step m5 g5
    rw [e1]
    refine st5.num (by simp [E.app, E.nil]; omega) (fun W7 F7 st7 m7 g7 => ⟨rfl, s1, (hr5.step m7 g7).sub _ _ c1, ?_⟩)
    have hr7 := hr5.step m7 g7
    refine st7.nums hr7 (Ints.mono h1 hle) (by simp [E.app, E.nil]; omega) hn (fun W8 F8 st8 m8 g8 => ⟨rfl, st8.end_ ?_⟩)
    unfold elemE
    rw [E.nil_app]
theorem data_part {r : Rd} {s0 s1 : Sl} {x : Data} (h0 : CodeR r s0 x.offset) (h1 : Bytes r s1 x.bytes) : PartOk f_encode_Encode_8 (.agg #[s0.v, s1.v]) r (dataW x) (dataE x) := by
  have l1 := numE_len x.bytes.length
  have key : dataW x ≤ big → (writeE x.offset).b.length ≤ codeW x.offset := fun hw => writeE_len (CodeR.range h0) (by unfold dataW at hw; omega)
  refine ⟨fun hw => ?_, fun W q F bs bad h hr hl => ?_⟩
  · have := key hw
    unfold dataW dataE
    simp only [E.app_b, List.length_append, List.length_cons, List.length_nil]; omega
  · have l3 := key (by omega)
    unfold dataW at hl
    refine of_encode_Encode_8 _ _ _ _ _ ?_
    unfold V_encode_Encode_8
    refine Na.mk fun b3 W1 hb3 hm1 hs1 hc1 => ?_
    obtain ⟨r', hr1, hle, hc⟩ := laid hr ((OutSt.start h).new (W' := W1) hb3) hm1 hc1
    have c0 := hc 0 s0.v rfl
    have c1 := hc 1 s1.v rfl
    have st1 := (OutSt.start h).mod0 hm1
    have e1 : (s1.len : Int) = x.bytes.length := by rw [h1.1]
    refine st1.byte (by simp [E.app, E.nil]; omega) (fun W4 F4 st4 m4 g4 => ⟨rfl, s0, (hr1.step m4 g4).sub _ _ c0, ?_⟩)
    have hr4 := hr1.step m4 g4
    refine st4.expr hr4 (SlOf.mono InstrR.mono hle h0) (by simp [E.app, E.nil]; omega) (fun W5 F5 st5 m5 g5 => ⟨rfl, s1, (hr4.step m5 g5).sub _ _ c1, ?_⟩)
    have hr5 := hr4.step m5 g5
    rw [e1]
    refine st5.num (by simp [E.app, E.nil]; omega) (fun W7 F7 st7 m7 g7 => ⟨rfl, s1, (hr5.step m7 g7).sub _ _ c1, ?_⟩)
    have hr7 := hr5.step m7 g7
    refine st7.bytesOf hr7 (Ints.mono h1 hle) (by simp [E.app, E.nil]; omega) (fun W8 F8 st8 m8 g8 => ⟨rfl, st8.end_ ?_⟩)
    unfold dataE
    rw [E.nil_app]
end Go.Proofs.YtacjnpahlbibhaaDoor
end
section
/- Contracts: encode.section, at each type. (mkSec.py printed this) -/
set_option linter.unusedVariables false
set_option linter.unusedSimpArgs false
set_option maxRecDepth 100000
namespace Go.Proofs.YtacjnpahlbibhaaDoor
open Go Go.RowKit

theorem OutAt.new {W : World} {b : Nat} {bad : Bool} (hh : W.heap[b]? = some (.cells #[.slice none 0 0, .bool bad] ty_encode_out (0, 0))) : OutAt W ⟨b, 0, none⟩ (fun k => k = b) [] bad :=
  ⟨b, ⟨none, 0, 0⟩, rfl, hh, Own.nil _ _ _, nil_notB b, rfl, fun k hk => absurd hk (nil_notB k), fun k hk => hk ▸ heap_lt hh⟩
theorem E.cat_take_len' {α : Type} (f : α → E) (wt : α → Nat) (xs : List α) (h : ∀ x ∈ xs, (f x).b.length ≤ wt x) : (E.cat (xs.map f)).b.length ≤ (xs.map wt).sum := by
  induction xs with
  | nil => simp [E.cat, E.nil]
  | cons a l ih =>
    rw [List.map_cons, List.map_cons, List.sum_cons, E.cat, E.app_b, List.length_append]
    have := h a (List.mem_cons_self ..)
    have := ih (fun x hx => h x (List.mem_cons_of_mem _ hx))
    omega
theorem sum_take_le {α : Type} (wt : α → Nat) (xs : List α) (k : Nat) : ((xs.take k).map wt).sum ≤ (xs.map wt).sum := by
  have : (xs.map wt).sum = ((xs.take k).map wt).sum + ((xs.drop k).map wt).sum := by rw [← List.sum_append, ← List.map_append, List.take_append_drop]
  omega
theorem sum_get_le {α : Type} (wt : α → Nat) {xs : List α} {k : Nat} (h : k < xs.length) : ((xs.take k).map wt).sum + wt xs[k] ≤ (xs.map wt).sum := by
  have := sum_take_le wt xs (k + 1)
  rw [List.take_succ_eq_append_getElem h, List.map_append, List.sum_append, List.map_cons, List.map_nil, List.sum_cons, List.sum_nil] at this
  omega

theorem section_Sig_spec {α : Type} {RT : Rd → Addr → α → Prop} {one : α → E} {wt : α → Nat} {g : FuncId} (he : Ent Tryd.prog g) {r : Rd} {s : Sl} {xs : List α} (hx : SlOf 2 RT r s xs)
    (hRT : ∀ q x, RT r q x → ∃ v0 : Sl, ∃ v1 : Sl, r (q.add 0) = some v0.v ∧ r (q.add 1) = some v1.v ∧ PartOk g (.agg #[v0.v, v1.v]) r (wt x) (one x)) {W : World} {q : Addr} {F : Nat → Prop} {bs : List Int} {bad : Bool} (h : OutAt W q F bs bad) (hr : Rds r W F)
    {id most : Int} (hl : bs.length + (xs.map wt).sum + 60 ≤ big) (hn : xs.length ≤ big) :
    Calls Tryd.prog f_encode_section_Sig #[.pointer (some q), .int .u8 id, .int .i64 most, s.v, .func (.func g) #[] #[]] W (OutPost W q F (bs ++ (secE id most one xs).b) (bad || !(secE id most one xs).ok)) := by
  refine of_encode_section_Sig _ _ _ _ _ _ _ ?_
  unfold V_encode_section_Sig
  unfold big at hn
  have hlen : (s.len : Int) = xs.length := by rw [hx.1]
  rw [hlen]
  refine (OutSt.start h).must (fun W1 F1 st1 m1 g1 => ⟨rfl, ?_⟩)
  have hr1 := hr.step m1 g1
  refine Br.eq (fun hz => ?_) (fun hnz => ?_)
  · have hz : xs = [] := List.length_eq_zero_iff.1 (by omega)
    refine st1.end_ ?_
    rw [hz, E.nil_app]; exact (E.app_nil _).symm
  have hpart : ∀ (k : Nat) (hk : k < xs.length), (one xs[k]).b.length ≤ wt xs[k] := by
    intro k hk
    obtain ⟨qk, _, hq⟩ := hx.get hk
    obtain ⟨v0, v1, hc⟩ := hRT _ _ hq
    have := sum_get_le wt hk
    exact hc.2.2.1 (by omega)
  have hcat : ∀ k, (E.cat ((xs.take k).map one)).b.length ≤ ((xs.take k).map wt).sum := fun k => E.cat_take_len' one wt _ (fun x hx' => by
    obtain ⟨i, hi, rfl⟩ := List.getElem_of_mem (List.mem_of_mem_take hx')
    exact hpart i hi)
  have hnl := numE_len xs.length
  obtain ⟨s1, c0, c1, _⟩ := st1.out.open
  refine ⟨q, rfl, _, c1, ?_⟩
  refine Na.mk fun b27 W2 hb2 hm2 hs2 hc2 => ?_
  have hr2 : Rds r W2 (fun k => k = b27) := ⟨hr1.sub.mod0 hm2, fun p v hp e => by have := lt_of_cell (hr1.sub p v hp); omega⟩
  have pst := OutSt.start (OutAt.new hc2)
  have hn27 : ¬ F1 b27 := fun hF => by have := st1.out.lt hF; omega
  refine pst.num (by simp [E.nil]; unfold big; omega) (fun W4 G4 pst4 m4 g4 => ⟨rfl, ?_⟩)
  rw [E.nil_app (numE (xs.length : Int))] at pst4
  intro L hL
  have key : ∀ (n k : Nat) (W5 : World) (G : Nat → Prop), n = xs.length - k → k ≤ xs.length → OutSt W2 ⟨b27, 0, none⟩ (fun k => k = b27) [] (bad || !(E.nil.app ⟨[], decide ((xs.length : Int) ≤ most)⟩).ok) ((numE xs.length).app (E.cat ((xs.take k).map one))) W5 G → L (k : Int) W5 := by
    intro n
    induction n with
    | zero =>
      intro k W5 G hnk hk st
      have hk : k = xs.length := by omega
      rw [hk, List.take_length] at st
      refine hL _ _ (Br.dec (fun hlt => by omega) (fun _ => ?_))
      have hm15 : Mod NoB W1 W5 := hm2.trans st.mod (fun i hi e => by omega)
      have ost := st1.mod0 hm15
      have hdis : ∀ k, G k → ¬ F1 k := fun k hG hF => by
        have := st1.out.lt hF
        rcases st.grows k hG with h | h <;> omega
      obtain ⟨sp, hp⟩ := st.out.read hdis
      have hlc := hcat xs.length
      rw [List.take_length] at hlc
      have hpl : ([] ++ ((numE xs.length).app (E.cat (xs.map one))).b).length ≤ 10 + (xs.map wt).sum := by
        rw [List.nil_append, E.app_b, List.length_append]; omega
      refine ost.step ent_encode_out_put (bs' := (putE id _ _).b) (ok := (putE id _ _).ok) (put_spec ost.out (Rds.all W5 F1) hp id (by rw [E.nil_app, List.append_nil]; omega)) (fun W9 F9 st9 m9 g9 => ⟨rfl, ?_⟩)
      have hd := st9.done
      have hne : xs.isEmpty = false := by cases xs with | nil => exact absurd rfl hnz | cons a l => rfl
      have eb : ((E.nil.app ⟨[], decide ((xs.length : Int) ≤ most)⟩).app ⟨(putE id ([] ++ ((numE xs.length).app (E.cat (xs.map one))).b) ((bad || !(E.nil.app ⟨[], decide ((xs.length : Int) ≤ most)⟩).ok) || !((numE xs.length).app (E.cat (xs.map one))).ok)).b, (putE id ([] ++ ((numE xs.length).app (E.cat (xs.map one))).b) ((bad || !(E.nil.app ⟨[], decide ((xs.length : Int) ≤ most)⟩).ok) || !((numE xs.length).app (E.cat (xs.map one))).ok)).ok⟩).b = (secE id most one xs).b := by
        simp [secE, hne, putE, E.app, E.nil]
      have eo : (bad || !((E.nil.app ⟨[], decide ((xs.length : Int) ≤ most)⟩).app ⟨(putE id ([] ++ ((numE xs.length).app (E.cat (xs.map one))).b) ((bad || !(E.nil.app ⟨[], decide ((xs.length : Int) ≤ most)⟩).ok) || !((numE xs.length).app (E.cat (xs.map one))).ok)).b, (putE id ([] ++ ((numE xs.length).app (E.cat (xs.map one))).b) ((bad || !(E.nil.app ⟨[], decide ((xs.length : Int) ≤ most)⟩).ok) || !((numE xs.length).app (E.cat (xs.map one))).ok)).ok⟩).ok) = (bad || !(secE id most one xs).ok) := by
        exact secE_ok id most one xs hne bad
      rw [eb, eo] at hd
      exact hd
    | succ n ih =>
      intro k W5 G hnk hk st
      have hlt : k < xs.length := by omega
      refine hL _ _ (Br.dec (fun _ => ?_) (fun hge => absurd (by omega) hge))
      obtain ⟨qk, hqk, hRk⟩ := hx.get hlt
      obtain ⟨v0, v1, hc⟩ := hRT _ _ hRk
      have hr5 := st.rds hr2
      have hwk := sum_get_le wt hlt
      have hlk := hcat k
      refine ⟨qk, ⟨hqk, by omega, by omega⟩, v0, hr5.sub _ _ hc.1, v1, hr5.sub _ _ hc.2.1, ?_⟩
      refine Na.mk fun b12 W6 hb6 hm6 hs6 hc6 => ?_
      refine stC_at (b := b12) (o := 0) rfl hc6 (by simp) (by simp [Value.oneCell', Sl.v]) (fun W7 h7 m7 sz7 => ?_)
      rw [setL_all (by simp)] at h7
      have hlt12 := heap_lt hc6
      have st7 := st.mod0 (hm6.trans m7 (fun i hi e => by omega) : Mod NoB W5 W7)
      have hr7 := st7.rds hr2
      refine ⟨v0, cell_of_heap h7 rfl, v1, cell_of_heap h7 rfl, ?_⟩
      refine st7.step he (bs' := (one xs[k]).b) (ok := (one xs[k]).ok) (hc.2.2.2 _ _ _ _ _ st7.out hr7 (by rw [List.nil_append, E.app_b, List.length_append]; omega)) (fun W8 G8 st8 m8 g8 => ⟨rfl, ?_⟩)
      rw [wrap_id (by omega) (by omega)]
      refine ih (k + 1) W8 G8 (by omega) hlt ?_
      rw [E.cat_take_succ one hlt, ← E.app_assoc]
      exact st8
  exact key xs.length 0 W4 G4 (by omega) (by omega) (by rw [List.take_zero, List.map_nil, E.cat, E.app_nil]; exact pst4)

theorem section_Import_spec {α : Type} {RT : Rd → Addr → α → Prop} {one : α → E} {wt : α → Nat} {g : FuncId} (he : Ent Tryd.prog g) {r : Rd} {s : Sl} {xs : List α} (hx : SlOf 3 RT r s xs)
    (hRT : ∀ q x, RT r q x → ∃ v0 : ByteArray, ∃ v1 : ByteArray, ∃ v2 : Int, r (q.add 0) = some (.string v0) ∧ r (q.add 1) = some (.string v1) ∧ r (q.add 2) = some (.int .i64 v2) ∧ PartOk g (.agg #[(.string v0), (.string v1), (.int .i64 v2)]) r (wt x) (one x)) {W : World} {q : Addr} {F : Nat → Prop} {bs : List Int} {bad : Bool} (h : OutAt W q F bs bad) (hr : Rds r W F)
    {id most : Int} (hl : bs.length + (xs.map wt).sum + 60 ≤ big) (hn : xs.length ≤ big) :
    Calls Tryd.prog f_encode_section_Import #[.pointer (some q), .int .u8 id, .int .i64 most, s.v, .func (.func g) #[] #[]] W (OutPost W q F (bs ++ (secE id most one xs).b) (bad || !(secE id most one xs).ok)) := by
  refine of_encode_section_Import _ _ _ _ _ _ _ ?_
  unfold V_encode_section_Import
  unfold big at hn
  have hlen : (s.len : Int) = xs.length := by rw [hx.1]
  rw [hlen]
  refine (OutSt.start h).must (fun W1 F1 st1 m1 g1 => ⟨rfl, ?_⟩)
  have hr1 := hr.step m1 g1
  refine Br.eq (fun hz => ?_) (fun hnz => ?_)
  · have hz : xs = [] := List.length_eq_zero_iff.1 (by omega)
    refine st1.end_ ?_
    rw [hz, E.nil_app]; exact (E.app_nil _).symm
  have hpart : ∀ (k : Nat) (hk : k < xs.length), (one xs[k]).b.length ≤ wt xs[k] := by
    intro k hk
    obtain ⟨qk, _, hq⟩ := hx.get hk
    obtain ⟨v0, v1, v2, hc⟩ := hRT _ _ hq
    have := sum_get_le wt hk
    exact hc.2.2.2.1 (by omega)
  have hcat : ∀ k, (E.cat ((xs.take k).map one)).b.length ≤ ((xs.take k).map wt).sum := fun k => E.cat_take_len' one wt _ (fun x hx' => by
    obtain ⟨i, hi, rfl⟩ := List.getElem_of_mem (List.mem_of_mem_take hx')
    exact hpart i hi)
  have hnl := numE_len xs.length
  obtain ⟨s1, c0, c1, _⟩ := st1.out.open
  refine ⟨q, rfl, _, c1, ?_⟩
  refine Na.mk fun b27 W2 hb2 hm2 hs2 hc2 => ?_
  have hr2 : Rds r W2 (fun k => k = b27) := ⟨hr1.sub.mod0 hm2, fun p v hp e => by have := lt_of_cell (hr1.sub p v hp); omega⟩
  have pst := OutSt.start (OutAt.new hc2)
  have hn27 : ¬ F1 b27 := fun hF => by have := st1.out.lt hF; omega
  refine pst.num (by simp [E.nil]; unfold big; omega) (fun W4 G4 pst4 m4 g4 => ⟨rfl, ?_⟩)
  rw [E.nil_app (numE (xs.length : Int))] at pst4
  intro L hL
  have key : ∀ (n k : Nat) (W5 : World) (G : Nat → Prop), n = xs.length - k → k ≤ xs.length → OutSt W2 ⟨b27, 0, none⟩ (fun k => k = b27) [] (bad || !(E.nil.app ⟨[], decide ((xs.length : Int) ≤ most)⟩).ok) ((numE xs.length).app (E.cat ((xs.take k).map one))) W5 G → L (k : Int) W5 := by
    intro n
    induction n with
    | zero =>
      intro k W5 G hnk hk st
      have hk : k = xs.length := by omega
      rw [hk, List.take_length] at st
      refine hL _ _ (Br.dec (fun hlt => by omega) (fun _ => ?_))
      have hm15 : Mod NoB W1 W5 := hm2.trans st.mod (fun i hi e => by omega)
      have ost := st1.mod0 hm15
      have hdis : ∀ k, G k → ¬ F1 k := fun k hG hF => by
        have := st1.out.lt hF
        rcases st.grows k hG with h | h <;> omega
      obtain ⟨sp, hp⟩ := st.out.read hdis
      have hlc := hcat xs.length
      rw [List.take_length] at hlc
      have hpl : ([] ++ ((numE xs.length).app (E.cat (xs.map one))).b).length ≤ 10 + (xs.map wt).sum := by
        rw [List.nil_append, E.app_b, List.length_append]; omega
      refine ost.step ent_encode_out_put (bs' := (putE id _ _).b) (ok := (putE id _ _).ok) (put_spec ost.out (Rds.all W5 F1) hp id (by rw [E.nil_app, List.append_nil]; omega)) (fun W9 F9 st9 m9 g9 => ⟨rfl, ?_⟩)
      have hd := st9.done
      have hne : xs.isEmpty = false := by cases xs with | nil => exact absurd rfl hnz | cons a l => rfl
      have eb : ((E.nil.app ⟨[], decide ((xs.length : Int) ≤ most)⟩).app ⟨(putE id ([] ++ ((numE xs.length).app (E.cat (xs.map one))).b) ((bad || !(E.nil.app ⟨[], decide ((xs.length : Int) ≤ most)⟩).ok) || !((numE xs.length).app (E.cat (xs.map one))).ok)).b, (putE id ([] ++ ((numE xs.length).app (E.cat (xs.map one))).b) ((bad || !(E.nil.app ⟨[], decide ((xs.length : Int) ≤ most)⟩).ok) || !((numE xs.length).app (E.cat (xs.map one))).ok)).ok⟩).b = (secE id most one xs).b := by
        simp [secE, hne, putE, E.app, E.nil]
      have eo : (bad || !((E.nil.app ⟨[], decide ((xs.length : Int) ≤ most)⟩).app ⟨(putE id ([] ++ ((numE xs.length).app (E.cat (xs.map one))).b) ((bad || !(E.nil.app ⟨[], decide ((xs.length : Int) ≤ most)⟩).ok) || !((numE xs.length).app (E.cat (xs.map one))).ok)).b, (putE id ([] ++ ((numE xs.length).app (E.cat (xs.map one))).b) ((bad || !(E.nil.app ⟨[], decide ((xs.length : Int) ≤ most)⟩).ok) || !((numE xs.length).app (E.cat (xs.map one))).ok)).ok⟩).ok) = (bad || !(secE id most one xs).ok) := by
        exact secE_ok id most one xs hne bad
      rw [eb, eo] at hd
      exact hd
    | succ n ih =>
      intro k W5 G hnk hk st
      have hlt : k < xs.length := by omega
      refine hL _ _ (Br.dec (fun _ => ?_) (fun hge => absurd (by omega) hge))
      obtain ⟨qk, hqk, hRk⟩ := hx.get hlt
      obtain ⟨v0, v1, v2, hc⟩ := hRT _ _ hRk
      have hr5 := st.rds hr2
      have hwk := sum_get_le wt hlt
      have hlk := hcat k
      refine ⟨qk, ⟨hqk, by omega, by omega⟩, v0, hr5.sub _ _ hc.1, v1, hr5.sub _ _ hc.2.1, v2, hr5.sub _ _ hc.2.2.1, ?_⟩
      refine Na.mk fun b12 W6 hb6 hm6 hs6 hc6 => ?_
      refine stC_at (b := b12) (o := 0) rfl hc6 (by simp) (by simp [Value.oneCell', Sl.v]) (fun W7 h7 m7 sz7 => ?_)
      rw [setL_all (by simp)] at h7
      have hlt12 := heap_lt hc6
      have st7 := st.mod0 (hm6.trans m7 (fun i hi e => by omega) : Mod NoB W5 W7)
      have hr7 := st7.rds hr2
      refine ⟨v0, cell_of_heap h7 rfl, v1, cell_of_heap h7 rfl, v2, cell_of_heap h7 rfl, ?_⟩
      refine st7.step he (bs' := (one xs[k]).b) (ok := (one xs[k]).ok) (hc.2.2.2.2 _ _ _ _ _ st7.out hr7 (by rw [List.nil_append, E.app_b, List.length_append]; omega)) (fun W8 G8 st8 m8 g8 => ⟨rfl, ?_⟩)
      rw [wrap_id (by omega) (by omega)]
      refine ih (k + 1) W8 G8 (by omega) hlt ?_
      rw [E.cat_take_succ one hlt, ← E.app_assoc]
      exact st8
  exact key xs.length 0 W4 G4 (by omega) (by omega) (by rw [List.take_zero, List.map_nil, E.cat, E.app_nil]; exact pst4)

theorem section_int_spec {α : Type} {RT : Rd → Addr → α → Prop} {one : α → E} {wt : α → Nat} {g : FuncId} (he : Ent Tryd.prog g) {r : Rd} {s : Sl} {xs : List α} (hx : SlOf 1 RT r s xs)
    (hRT : ∀ q x, RT r q x → ∃ v0 : Int, r q = some (.int .i64 v0) ∧ PartOk g ((.int .i64 v0)) r (wt x) (one x)) {W : World} {q : Addr} {F : Nat → Prop} {bs : List Int} {bad : Bool} (h : OutAt W q F bs bad) (hr : Rds r W F)
    {id most : Int} (hl : bs.length + (xs.map wt).sum + 60 ≤ big) (hn : xs.length ≤ big) :
    Calls Tryd.prog f_encode_section_int #[.pointer (some q), .int .u8 id, .int .i64 most, s.v, .func (.func g) #[] #[]] W (OutPost W q F (bs ++ (secE id most one xs).b) (bad || !(secE id most one xs).ok)) := by
  refine of_encode_section_int _ _ _ _ _ _ _ ?_
  unfold V_encode_section_int
  unfold big at hn
  have hlen : (s.len : Int) = xs.length := by rw [hx.1]
  rw [hlen]
  refine (OutSt.start h).must (fun W1 F1 st1 m1 g1 => ⟨rfl, ?_⟩)
  have hr1 := hr.step m1 g1
  refine Br.eq (fun hz => ?_) (fun hnz => ?_)
  · have hz : xs = [] := List.length_eq_zero_iff.1 (by omega)
    refine st1.end_ ?_
    rw [hz, E.nil_app]; exact (E.app_nil _).symm
  have hpart : ∀ (k : Nat) (hk : k < xs.length), (one xs[k]).b.length ≤ wt xs[k] := by
    intro k hk
    obtain ⟨qk, _, hq⟩ := hx.get hk
    obtain ⟨v0, hc⟩ := hRT _ _ hq
    have := sum_get_le wt hk
    exact hc.2.1 (by omega)
  have hcat : ∀ k, (E.cat ((xs.take k).map one)).b.length ≤ ((xs.take k).map wt).sum := fun k => E.cat_take_len' one wt _ (fun x hx' => by
    obtain ⟨i, hi, rfl⟩ := List.getElem_of_mem (List.mem_of_mem_take hx')
    exact hpart i hi)
  have hnl := numE_len xs.length
  obtain ⟨s1, c0, c1, _⟩ := st1.out.open
  refine ⟨q, rfl, _, c1, ?_⟩
  refine Na.mk fun b27 W2 hb2 hm2 hs2 hc2 => ?_
  have hr2 : Rds r W2 (fun k => k = b27) := ⟨hr1.sub.mod0 hm2, fun p v hp e => by have := lt_of_cell (hr1.sub p v hp); omega⟩
  have pst := OutSt.start (OutAt.new hc2)
  have hn27 : ¬ F1 b27 := fun hF => by have := st1.out.lt hF; omega
  refine pst.num (by simp [E.nil]; unfold big; omega) (fun W4 G4 pst4 m4 g4 => ⟨rfl, ?_⟩)
  rw [E.nil_app (numE (xs.length : Int))] at pst4
  intro L hL
  have key : ∀ (n k : Nat) (W5 : World) (G : Nat → Prop), n = xs.length - k → k ≤ xs.length → OutSt W2 ⟨b27, 0, none⟩ (fun k => k = b27) [] (bad || !(E.nil.app ⟨[], decide ((xs.length : Int) ≤ most)⟩).ok) ((numE xs.length).app (E.cat ((xs.take k).map one))) W5 G → L (k : Int) W5 := by
    intro n
    induction n with
    | zero =>
      intro k W5 G hnk hk st
      have hk : k = xs.length := by omega
      rw [hk, List.take_length] at st
      refine hL _ _ (Br.dec (fun hlt => by omega) (fun _ => ?_))
      have hm15 : Mod NoB W1 W5 := hm2.trans st.mod (fun i hi e => by omega)
      have ost := st1.mod0 hm15
      have hdis : ∀ k, G k → ¬ F1 k := fun k hG hF => by
        have := st1.out.lt hF
        rcases st.grows k hG with h | h <;> omega
      obtain ⟨sp, hp⟩ := st.out.read hdis
      have hlc := hcat xs.length
      rw [List.take_length] at hlc
      have hpl : ([] ++ ((numE xs.length).app (E.cat (xs.map one))).b).length ≤ 10 + (xs.map wt).sum := by
        rw [List.nil_append, E.app_b, List.length_append]; omega
      refine ost.step ent_encode_out_put (bs' := (putE id _ _).b) (ok := (putE id _ _).ok) (put_spec ost.out (Rds.all W5 F1) hp id (by rw [E.nil_app, List.append_nil]; omega)) (fun W9 F9 st9 m9 g9 => ⟨rfl, ?_⟩)
      have hd := st9.done
      have hne : xs.isEmpty = false := by cases xs with | nil => exact absurd rfl hnz | cons a l => rfl
      have eb : ((E.nil.app ⟨[], decide ((xs.length : Int) ≤ most)⟩).app ⟨(putE id ([] ++ ((numE xs.length).app (E.cat (xs.map one))).b) ((bad || !(E.nil.app ⟨[], decide ((xs.length : Int) ≤ most)⟩).ok) || !((numE xs.length).app (E.cat (xs.map one))).ok)).b, (putE id ([] ++ ((numE xs.length).app (E.cat (xs.map one))).b) ((bad || !(E.nil.app ⟨[], decide ((xs.length : Int) ≤ most)⟩).ok) || !((numE xs.length).app (E.cat (xs.map one))).ok)).ok⟩).b = (secE id most one xs).b := by
        simp [secE, hne, putE, E.app, E.nil]
      have eo : (bad || !((E.nil.app ⟨[], decide ((xs.length : Int) ≤ most)⟩).app ⟨(putE id ([] ++ ((numE xs.length).app (E.cat (xs.map one))).b) ((bad || !(E.nil.app ⟨[], decide ((xs.length : Int) ≤ most)⟩).ok) || !((numE xs.length).app (E.cat (xs.map one))).ok)).b, (putE id ([] ++ ((numE xs.length).app (E.cat (xs.map one))).b) ((bad || !(E.nil.app ⟨[], decide ((xs.length : Int) ≤ most)⟩).ok) || !((numE xs.length).app (E.cat (xs.map one))).ok)).ok⟩).ok) = (bad || !(secE id most one xs).ok) := by
        exact secE_ok id most one xs hne bad
      rw [eb, eo] at hd
      exact hd
    | succ n ih =>
      intro k W5 G hnk hk st
      have hlt : k < xs.length := by omega
      refine hL _ _ (Br.dec (fun _ => ?_) (fun hge => absurd (by omega) hge))
      obtain ⟨qk, hqk, hRk⟩ := hx.get hlt
      obtain ⟨v0, hc⟩ := hRT _ _ hRk
      have hr5 := st.rds hr2
      have hwk := sum_get_le wt hlt
      have hlk := hcat k
      refine ⟨qk, ⟨hqk, by omega, by omega⟩, v0, hr5.sub _ _ hc.1, ?_⟩
      refine st.step he (bs' := (one xs[k]).b) (ok := (one xs[k]).ok) (hc.2.2 _ _ _ _ _ st.out hr5 (by rw [List.nil_append, E.app_b, List.length_append]; omega)) (fun W8 G8 st8 m8 g8 => ⟨rfl, ?_⟩)
      rw [wrap_id (by omega) (by omega)]
      refine ih (k + 1) W8 G8 (by omega) hlt ?_
      rw [E.cat_take_succ one hlt, ← E.app_assoc]
      exact st8
  exact key xs.length 0 W4 G4 (by omega) (by omega) (by rw [List.take_zero, List.map_nil, E.cat, E.app_nil]; exact pst4)

theorem section_Limits_spec {α : Type} {RT : Rd → Addr → α → Prop} {one : α → E} {wt : α → Nat} {g : FuncId} (he : Ent Tryd.prog g) {r : Rd} {s : Sl} {xs : List α} (hx : SlOf 2 RT r s xs)
    (hRT : ∀ q x, RT r q x → ∃ v0 : Int, ∃ v1 : Int, r (q.add 0) = some (.int .i64 v0) ∧ r (q.add 1) = some (.int .i64 v1) ∧ PartOk g (.agg #[(.int .i64 v0), (.int .i64 v1)]) r (wt x) (one x)) {W : World} {q : Addr} {F : Nat → Prop} {bs : List Int} {bad : Bool} (h : OutAt W q F bs bad) (hr : Rds r W F)
    {id most : Int} (hl : bs.length + (xs.map wt).sum + 60 ≤ big) (hn : xs.length ≤ big) :
    Calls Tryd.prog f_encode_section_Limits #[.pointer (some q), .int .u8 id, .int .i64 most, s.v, .func (.func g) #[] #[]] W (OutPost W q F (bs ++ (secE id most one xs).b) (bad || !(secE id most one xs).ok)) := by
  refine of_encode_section_Limits _ _ _ _ _ _ _ ?_
  unfold V_encode_section_Limits
  unfold big at hn
  have hlen : (s.len : Int) = xs.length := by rw [hx.1]
  rw [hlen]
  refine (OutSt.start h).must (fun W1 F1 st1 m1 g1 => ⟨rfl, ?_⟩)
  have hr1 := hr.step m1 g1
  refine Br.eq (fun hz => ?_) (fun hnz => ?_)
  · have hz : xs = [] := List.length_eq_zero_iff.1 (by omega)
    refine st1.end_ ?_
    rw [hz, E.nil_app]; exact (E.app_nil _).symm
  have hpart : ∀ (k : Nat) (hk : k < xs.length), (one xs[k]).b.length ≤ wt xs[k] := by
    intro k hk
    obtain ⟨qk, _, hq⟩ := hx.get hk
    obtain ⟨v0, v1, hc⟩ := hRT _ _ hq
    have := sum_get_le wt hk
    exact hc.2.2.1 (by omega)
  have hcat : ∀ k, (E.cat ((xs.take k).map one)).b.length ≤ ((xs.take k).map wt).sum := fun k => E.cat_take_len' one wt _ (fun x hx' => by
    obtain ⟨i, hi, rfl⟩ := List.getElem_of_mem (List.mem_of_mem_take hx')
    exact hpart i hi)
  have hnl := numE_len xs.length
  obtain ⟨s1, c0, c1, _⟩ := st1.out.open
  refine ⟨q, rfl, _, c1, ?_⟩
  refine Na.mk fun b27 W2 hb2 hm2 hs2 hc2 => ?_
  have hr2 : Rds r W2 (fun k => k = b27) := ⟨hr1.sub.mod0 hm2, fun p v hp e => by have := lt_of_cell (hr1.sub p v hp); omega⟩
  have pst := OutSt.start (OutAt.new hc2)
  have hn27 : ¬ F1 b27 := fun hF => by have := st1.out.lt hF; omega
  refine pst.num (by simp [E.nil]; unfold big; omega) (fun W4 G4 pst4 m4 g4 => ⟨rfl, ?_⟩)
  rw [E.nil_app (numE (xs.length : Int))] at pst4
  intro L hL
  have key : ∀ (n k : Nat) (W5 : World) (G : Nat → Prop), n = xs.length - k → k ≤ xs.length → OutSt W2 ⟨b27, 0, none⟩ (fun k => k = b27) [] (bad || !(E.nil.app ⟨[], decide ((xs.length : Int) ≤ most)⟩).ok) ((numE xs.length).app (E.cat ((xs.take k).map one))) W5 G → L (k : Int) W5 := by
    intro n
    induction n with
    | zero =>
      intro k W5 G hnk hk st
      have hk : k = xs.length := by omega
      rw [hk, List.take_length] at st
      refine hL _ _ (Br.dec (fun hlt => by omega) (fun _ => ?_))
      have hm15 : Mod NoB W1 W5 := hm2.trans st.mod (fun i hi e => by omega)
      have ost := st1.mod0 hm15
      have hdis : ∀ k, G k → ¬ F1 k := fun k hG hF => by
        have := st1.out.lt hF
        rcases st.grows k hG with h | h <;> omega
      obtain ⟨sp, hp⟩ := st.out.read hdis
      have hlc := hcat xs.length
      rw [List.take_length] at hlc
      have hpl : ([] ++ ((numE xs.length).app (E.cat (xs.map one))).b).length ≤ 10 + (xs.map wt).sum := by
        rw [List.nil_append, E.app_b, List.length_append]; omega
      refine ost.step ent_encode_out_put (bs' := (putE id _ _).b) (ok := (putE id _ _).ok) (put_spec ost.out (Rds.all W5 F1) hp id (by rw [E.nil_app, List.append_nil]; omega)) (fun W9 F9 st9 m9 g9 => ⟨rfl, ?_⟩)
      have hd := st9.done
      have hne : xs.isEmpty = false := by cases xs with | nil => exact absurd rfl hnz | cons a l => rfl
      have eb : ((E.nil.app ⟨[], decide ((xs.length : Int) ≤ most)⟩).app ⟨(putE id ([] ++ ((numE xs.length).app (E.cat (xs.map one))).b) ((bad || !(E.nil.app ⟨[], decide ((xs.length : Int) ≤ most)⟩).ok) || !((numE xs.length).app (E.cat (xs.map one))).ok)).b, (putE id ([] ++ ((numE xs.length).app (E.cat (xs.map one))).b) ((bad || !(E.nil.app ⟨[], decide ((xs.length : Int) ≤ most)⟩).ok) || !((numE xs.length).app (E.cat (xs.map one))).ok)).ok⟩).b = (secE id most one xs).b := by
        simp [secE, hne, putE, E.app, E.nil]
      have eo : (bad || !((E.nil.app ⟨[], decide ((xs.length : Int) ≤ most)⟩).app ⟨(putE id ([] ++ ((numE xs.length).app (E.cat (xs.map one))).b) ((bad || !(E.nil.app ⟨[], decide ((xs.length : Int) ≤ most)⟩).ok) || !((numE xs.length).app (E.cat (xs.map one))).ok)).b, (putE id ([] ++ ((numE xs.length).app (E.cat (xs.map one))).b) ((bad || !(E.nil.app ⟨[], decide ((xs.length : Int) ≤ most)⟩).ok) || !((numE xs.length).app (E.cat (xs.map one))).ok)).ok⟩).ok) = (bad || !(secE id most one xs).ok) := by
        exact secE_ok id most one xs hne bad
      rw [eb, eo] at hd
      exact hd
    | succ n ih =>
      intro k W5 G hnk hk st
      have hlt : k < xs.length := by omega
      refine hL _ _ (Br.dec (fun _ => ?_) (fun hge => absurd (by omega) hge))
      obtain ⟨qk, hqk, hRk⟩ := hx.get hlt
      obtain ⟨v0, v1, hc⟩ := hRT _ _ hRk
      have hr5 := st.rds hr2
      have hwk := sum_get_le wt hlt
      have hlk := hcat k
      refine ⟨qk, ⟨hqk, by omega, by omega⟩, v0, hr5.sub _ _ hc.1, v1, hr5.sub _ _ hc.2.1, ?_⟩
      refine Na.mk fun b12 W6 hb6 hm6 hs6 hc6 => ?_
      refine stC_at (b := b12) (o := 0) rfl hc6 (by simp) (by simp [Value.oneCell', Sl.v]) (fun W7 h7 m7 sz7 => ?_)
      rw [setL_all (by simp)] at h7
      have hlt12 := heap_lt hc6
      have st7 := st.mod0 (hm6.trans m7 (fun i hi e => by omega) : Mod NoB W5 W7)
      have hr7 := st7.rds hr2
      refine ⟨v0, cell_of_heap h7 rfl, v1, cell_of_heap h7 rfl, ?_⟩
      refine st7.step he (bs' := (one xs[k]).b) (ok := (one xs[k]).ok) (hc.2.2.2 _ _ _ _ _ st7.out hr7 (by rw [List.nil_append, E.app_b, List.length_append]; omega)) (fun W8 G8 st8 m8 g8 => ⟨rfl, ?_⟩)
      rw [wrap_id (by omega) (by omega)]
      refine ih (k + 1) W8 G8 (by omega) hlt ?_
      rw [E.cat_take_succ one hlt, ← E.app_assoc]
      exact st8
  exact key xs.length 0 W4 G4 (by omega) (by omega) (by rw [List.take_zero, List.map_nil, E.cat, E.app_nil]; exact pst4)

theorem section_Global_spec {α : Type} {RT : Rd → Addr → α → Prop} {one : α → E} {wt : α → Nat} {g : FuncId} (he : Ent Tryd.prog g) {r : Rd} {s : Sl} {xs : List α} (hx : SlOf 3 RT r s xs)
    (hRT : ∀ q x, RT r q x → ∃ v0 : Int, ∃ v1 : Bool, ∃ v2 : Sl, r (q.add 0) = some (.int .i64 v0) ∧ r (q.add 1) = some (.bool v1) ∧ r (q.add 2) = some v2.v ∧ PartOk g (.agg #[(.int .i64 v0), (.bool v1), v2.v]) r (wt x) (one x)) {W : World} {q : Addr} {F : Nat → Prop} {bs : List Int} {bad : Bool} (h : OutAt W q F bs bad) (hr : Rds r W F)
    {id most : Int} (hl : bs.length + (xs.map wt).sum + 60 ≤ big) (hn : xs.length ≤ big) :
    Calls Tryd.prog f_encode_section_Global #[.pointer (some q), .int .u8 id, .int .i64 most, s.v, .func (.func g) #[] #[]] W (OutPost W q F (bs ++ (secE id most one xs).b) (bad || !(secE id most one xs).ok)) := by
  refine of_encode_section_Global _ _ _ _ _ _ _ ?_
  unfold V_encode_section_Global
  unfold big at hn
  have hlen : (s.len : Int) = xs.length := by rw [hx.1]
  rw [hlen]
  refine (OutSt.start h).must (fun W1 F1 st1 m1 g1 => ⟨rfl, ?_⟩)
  have hr1 := hr.step m1 g1
  refine Br.eq (fun hz => ?_) (fun hnz => ?_)
  · have hz : xs = [] := List.length_eq_zero_iff.1 (by omega)
    refine st1.end_ ?_
    rw [hz, E.nil_app]; exact (E.app_nil _).symm
  have hpart : ∀ (k : Nat) (hk : k < xs.length), (one xs[k]).b.length ≤ wt xs[k] := by
    intro k hk
    obtain ⟨qk, _, hq⟩ := hx.get hk
    obtain ⟨v0, v1, v2, hc⟩ := hRT _ _ hq
    have := sum_get_le wt hk
    exact hc.2.2.2.1 (by omega)
  have hcat : ∀ k, (E.cat ((xs.take k).map one)).b.length ≤ ((xs.take k).map wt).sum := fun k => E.cat_take_len' one wt _ (fun x hx' => by
    obtain ⟨i, hi, rfl⟩ := List.getElem_of_mem (List.mem_of_mem_take hx')
    exact hpart i hi)
  have hnl := numE_len xs.length
  obtain ⟨s1, c0, c1, _⟩ := st1.out.open
  refine ⟨q, rfl, _, c1, ?_⟩
  refine Na.mk fun b27 W2 hb2 hm2 hs2 hc2 => ?_
  have hr2 : Rds r W2 (fun k => k = b27) := ⟨hr1.sub.mod0 hm2, fun p v hp e => by have := lt_of_cell (hr1.sub p v hp); omega⟩
  have pst := OutSt.start (OutAt.new hc2)
  have hn27 : ¬ F1 b27 := fun hF => by have := st1.out.lt hF; omega
  refine pst.num (by simp [E.nil]; unfold big; omega) (fun W4 G4 pst4 m4 g4 => ⟨rfl, ?_⟩)
  rw [E.nil_app (numE (xs.length : Int))] at pst4
  intro L hL
  have key : ∀ (n k : Nat) (W5 : World) (G : Nat → Prop), n = xs.length - k → k ≤ xs.length → OutSt W2 ⟨b27, 0, none⟩ (fun k => k = b27) [] (bad || !(E.nil.app ⟨[], decide ((xs.length : Int) ≤ most)⟩).ok) ((numE xs.length).app (E.cat ((xs.take k).map one))) W5 G → L (k : Int) W5 := by
    intro n
    induction n with
    | zero =>
      intro k W5 G hnk hk st
      have hk : k = xs.length := by omega
      rw [hk, List.take_length] at st
      refine hL _ _ (Br.dec (fun hlt => by omega) (fun _ => ?_))
      have hm15 : Mod NoB W1 W5 := hm2.trans st.mod (fun i hi e => by omega)
      have ost := st1.mod0 hm15
      have hdis : ∀ k, G k → ¬ F1 k := fun k hG hF => by
        have := st1.out.lt hF
        rcases st.grows k hG with h | h <;> omega
      obtain ⟨sp, hp⟩ := st.out.read hdis
      have hlc := hcat xs.length
      rw [List.take_length] at hlc
      have hpl : ([] ++ ((numE xs.length).app (E.cat (xs.map one))).b).length ≤ 10 + (xs.map wt).sum := by
        rw [List.nil_append, E.app_b, List.length_append]; omega
      refine ost.step ent_encode_out_put (bs' := (putE id _ _).b) (ok := (putE id _ _).ok) (put_spec ost.out (Rds.all W5 F1) hp id (by rw [E.nil_app, List.append_nil]; omega)) (fun W9 F9 st9 m9 g9 => ⟨rfl, ?_⟩)
      have hd := st9.done
      have hne : xs.isEmpty = false := by cases xs with | nil => exact absurd rfl hnz | cons a l => rfl
      have eb : ((E.nil.app ⟨[], decide ((xs.length : Int) ≤ most)⟩).app ⟨(putE id ([] ++ ((numE xs.length).app (E.cat (xs.map one))).b) ((bad || !(E.nil.app ⟨[], decide ((xs.length : Int) ≤ most)⟩).ok) || !((numE xs.length).app (E.cat (xs.map one))).ok)).b, (putE id ([] ++ ((numE xs.length).app (E.cat (xs.map one))).b) ((bad || !(E.nil.app ⟨[], decide ((xs.length : Int) ≤ most)⟩).ok) || !((numE xs.length).app (E.cat (xs.map one))).ok)).ok⟩).b = (secE id most one xs).b := by
        simp [secE, hne, putE, E.app, E.nil]
      have eo : (bad || !((E.nil.app ⟨[], decide ((xs.length : Int) ≤ most)⟩).app ⟨(putE id ([] ++ ((numE xs.length).app (E.cat (xs.map one))).b) ((bad || !(E.nil.app ⟨[], decide ((xs.length : Int) ≤ most)⟩).ok) || !((numE xs.length).app (E.cat (xs.map one))).ok)).b, (putE id ([] ++ ((numE xs.length).app (E.cat (xs.map one))).b) ((bad || !(E.nil.app ⟨[], decide ((xs.length : Int) ≤ most)⟩).ok) || !((numE xs.length).app (E.cat (xs.map one))).ok)).ok⟩).ok) = (bad || !(secE id most one xs).ok) := by
        exact secE_ok id most one xs hne bad
      rw [eb, eo] at hd
      exact hd
    | succ n ih =>
      intro k W5 G hnk hk st
      have hlt : k < xs.length := by omega
      refine hL _ _ (Br.dec (fun _ => ?_) (fun hge => absurd (by omega) hge))
      obtain ⟨qk, hqk, hRk⟩ := hx.get hlt
      obtain ⟨v0, v1, v2, hc⟩ := hRT _ _ hRk
      have hr5 := st.rds hr2
      have hwk := sum_get_le wt hlt
      have hlk := hcat k
      refine ⟨qk, ⟨hqk, by omega, by omega⟩, v0, hr5.sub _ _ hc.1, v1, hr5.sub _ _ hc.2.1, v2, hr5.sub _ _ hc.2.2.1, ?_⟩
      refine Na.mk fun b12 W6 hb6 hm6 hs6 hc6 => ?_
      refine stC_at (b := b12) (o := 0) rfl hc6 (by simp) (by simp [Value.oneCell', Sl.v]) (fun W7 h7 m7 sz7 => ?_)
      rw [setL_all (by simp)] at h7
      have hlt12 := heap_lt hc6
      have st7 := st.mod0 (hm6.trans m7 (fun i hi e => by omega) : Mod NoB W5 W7)
      have hr7 := st7.rds hr2
      refine ⟨v0, cell_of_heap h7 rfl, v1, cell_of_heap h7 rfl, v2, cell_of_heap h7 rfl, ?_⟩
      refine st7.step he (bs' := (one xs[k]).b) (ok := (one xs[k]).ok) (hc.2.2.2.2 _ _ _ _ _ st7.out hr7 (by rw [List.nil_append, E.app_b, List.length_append]; omega)) (fun W8 G8 st8 m8 g8 => ⟨rfl, ?_⟩)
      rw [wrap_id (by omega) (by omega)]
      refine ih (k + 1) W8 G8 (by omega) hlt ?_
      rw [E.cat_take_succ one hlt, ← E.app_assoc]
      exact st8
  exact key xs.length 0 W4 G4 (by omega) (by omega) (by rw [List.take_zero, List.map_nil, E.cat, E.app_nil]; exact pst4)

theorem section_Export_spec {α : Type} {RT : Rd → Addr → α → Prop} {one : α → E} {wt : α → Nat} {g : FuncId} (he : Ent Tryd.prog g) {r : Rd} {s : Sl} {xs : List α} (hx : SlOf 3 RT r s xs)
    (hRT : ∀ q x, RT r q x → ∃ v0 : ByteArray, ∃ v1 : Int, ∃ v2 : Int, r (q.add 0) = some (.string v0) ∧ r (q.add 1) = some (.int .i64 v1) ∧ r (q.add 2) = some (.int .i64 v2) ∧ PartOk g (.agg #[(.string v0), (.int .i64 v1), (.int .i64 v2)]) r (wt x) (one x)) {W : World} {q : Addr} {F : Nat → Prop} {bs : List Int} {bad : Bool} (h : OutAt W q F bs bad) (hr : Rds r W F)
    {id most : Int} (hl : bs.length + (xs.map wt).sum + 60 ≤ big) (hn : xs.length ≤ big) :
    Calls Tryd.prog f_encode_section_Export #[.pointer (some q), .int .u8 id, .int .i64 most, s.v, .func (.func g) #[] #[]] W (OutPost W q F (bs ++ (secE id most one xs).b) (bad || !(secE id most one xs).ok)) := by
  refine of_encode_section_Export _ _ _ _ _ _ _ ?_
  unfold V_encode_section_Export
  unfold big at hn
  have hlen : (s.len : Int) = xs.length := by rw [hx.1]
  rw [hlen]
  refine (OutSt.start h).must (fun W1 F1 st1 m1 g1 => ⟨rfl, ?_⟩)
  have hr1 := hr.step m1 g1
  refine Br.eq (fun hz => ?_) (fun hnz => ?_)
  · have hz : xs = [] := List.length_eq_zero_iff.1 (by omega)
    refine st1.end_ ?_
    rw [hz, E.nil_app]; exact (E.app_nil _).symm
  have hpart : ∀ (k : Nat) (hk : k < xs.length), (one xs[k]).b.length ≤ wt xs[k] := by
    intro k hk
    obtain ⟨qk, _, hq⟩ := hx.get hk
    obtain ⟨v0, v1, v2, hc⟩ := hRT _ _ hq
    have := sum_get_le wt hk
    exact hc.2.2.2.1 (by omega)
  have hcat : ∀ k, (E.cat ((xs.take k).map one)).b.length ≤ ((xs.take k).map wt).sum := fun k => E.cat_take_len' one wt _ (fun x hx' => by
    obtain ⟨i, hi, rfl⟩ := List.getElem_of_mem (List.mem_of_mem_take hx')
    exact hpart i hi)
  have hnl := numE_len xs.length
  obtain ⟨s1, c0, c1, _⟩ := st1.out.open
  refine ⟨q, rfl, _, c1, ?_⟩
  refine Na.mk fun b27 W2 hb2 hm2 hs2 hc2 => ?_
  have hr2 : Rds r W2 (fun k => k = b27) := ⟨hr1.sub.mod0 hm2, fun p v hp e => by have := lt_of_cell (hr1.sub p v hp); omega⟩
  have pst := OutSt.start (OutAt.new hc2)
  have hn27 : ¬ F1 b27 := fun hF => by have := st1.out.lt hF; omega
  refine pst.num (by simp [E.nil]; unfold big; omega) (fun W4 G4 pst4 m4 g4 => ⟨rfl, ?_⟩)
  rw [E.nil_app (numE (xs.length : Int))] at pst4
  intro L hL
  have key : ∀ (n k : Nat) (W5 : World) (G : Nat → Prop), n = xs.length - k → k ≤ xs.length → OutSt W2 ⟨b27, 0, none⟩ (fun k => k = b27) [] (bad || !(E.nil.app ⟨[], decide ((xs.length : Int) ≤ most)⟩).ok) ((numE xs.length).app (E.cat ((xs.take k).map one))) W5 G → L (k : Int) W5 := by
    intro n
    induction n with
    | zero =>
      intro k W5 G hnk hk st
      have hk : k = xs.length := by omega
      rw [hk, List.take_length] at st
      refine hL _ _ (Br.dec (fun hlt => by omega) (fun _ => ?_))
      have hm15 : Mod NoB W1 W5 := hm2.trans st.mod (fun i hi e => by omega)
      have ost := st1.mod0 hm15
      have hdis : ∀ k, G k → ¬ F1 k := fun k hG hF => by
        have := st1.out.lt hF
        rcases st.grows k hG with h | h <;> omega
      obtain ⟨sp, hp⟩ := st.out.read hdis
      have hlc := hcat xs.length
      rw [List.take_length] at hlc
      have hpl : ([] ++ ((numE xs.length).app (E.cat (xs.map one))).b).length ≤ 10 + (xs.map wt).sum := by
        rw [List.nil_append, E.app_b, List.length_append]; omega
      refine ost.step ent_encode_out_put (bs' := (putE id _ _).b) (ok := (putE id _ _).ok) (put_spec ost.out (Rds.all W5 F1) hp id (by rw [E.nil_app, List.append_nil]; omega)) (fun W9 F9 st9 m9 g9 => ⟨rfl, ?_⟩)
      have hd := st9.done
      have hne : xs.isEmpty = false := by cases xs with | nil => exact absurd rfl hnz | cons a l => rfl
      have eb : ((E.nil.app ⟨[], decide ((xs.length : Int) ≤ most)⟩).app ⟨(putE id ([] ++ ((numE xs.length).app (E.cat (xs.map one))).b) ((bad || !(E.nil.app ⟨[], decide ((xs.length : Int) ≤ most)⟩).ok) || !((numE xs.length).app (E.cat (xs.map one))).ok)).b, (putE id ([] ++ ((numE xs.length).app (E.cat (xs.map one))).b) ((bad || !(E.nil.app ⟨[], decide ((xs.length : Int) ≤ most)⟩).ok) || !((numE xs.length).app (E.cat (xs.map one))).ok)).ok⟩).b = (secE id most one xs).b := by
        simp [secE, hne, putE, E.app, E.nil]
      have eo : (bad || !((E.nil.app ⟨[], decide ((xs.length : Int) ≤ most)⟩).app ⟨(putE id ([] ++ ((numE xs.length).app (E.cat (xs.map one))).b) ((bad || !(E.nil.app ⟨[], decide ((xs.length : Int) ≤ most)⟩).ok) || !((numE xs.length).app (E.cat (xs.map one))).ok)).b, (putE id ([] ++ ((numE xs.length).app (E.cat (xs.map one))).b) ((bad || !(E.nil.app ⟨[], decide ((xs.length : Int) ≤ most)⟩).ok) || !((numE xs.length).app (E.cat (xs.map one))).ok)).ok⟩).ok) = (bad || !(secE id most one xs).ok) := by
        exact secE_ok id most one xs hne bad
      rw [eb, eo] at hd
      exact hd
    | succ n ih =>
      intro k W5 G hnk hk st
      have hlt : k < xs.length := by omega
      refine hL _ _ (Br.dec (fun _ => ?_) (fun hge => absurd (by omega) hge))
      obtain ⟨qk, hqk, hRk⟩ := hx.get hlt
      obtain ⟨v0, v1, v2, hc⟩ := hRT _ _ hRk
      have hr5 := st.rds hr2
      have hwk := sum_get_le wt hlt
      have hlk := hcat k
      refine ⟨qk, ⟨hqk, by omega, by omega⟩, v0, hr5.sub _ _ hc.1, v1, hr5.sub _ _ hc.2.1, v2, hr5.sub _ _ hc.2.2.1, ?_⟩
      refine Na.mk fun b12 W6 hb6 hm6 hs6 hc6 => ?_
      refine stC_at (b := b12) (o := 0) rfl hc6 (by simp) (by simp [Value.oneCell', Sl.v]) (fun W7 h7 m7 sz7 => ?_)
      rw [setL_all (by simp)] at h7
      have hlt12 := heap_lt hc6
      have st7 := st.mod0 (hm6.trans m7 (fun i hi e => by omega) : Mod NoB W5 W7)
      have hr7 := st7.rds hr2
      refine ⟨v0, cell_of_heap h7 rfl, v1, cell_of_heap h7 rfl, v2, cell_of_heap h7 rfl, ?_⟩
      refine st7.step he (bs' := (one xs[k]).b) (ok := (one xs[k]).ok) (hc.2.2.2.2 _ _ _ _ _ st7.out hr7 (by rw [List.nil_append, E.app_b, List.length_append]; omega)) (fun W8 G8 st8 m8 g8 => ⟨rfl, ?_⟩)
      rw [wrap_id (by omega) (by omega)]
      refine ih (k + 1) W8 G8 (by omega) hlt ?_
      rw [E.cat_take_succ one hlt, ← E.app_assoc]
      exact st8
  exact key xs.length 0 W4 G4 (by omega) (by omega) (by rw [List.take_zero, List.map_nil, E.cat, E.app_nil]; exact pst4)

theorem section_Elem_spec {α : Type} {RT : Rd → Addr → α → Prop} {one : α → E} {wt : α → Nat} {g : FuncId} (he : Ent Tryd.prog g) {r : Rd} {s : Sl} {xs : List α} (hx : SlOf 2 RT r s xs)
    (hRT : ∀ q x, RT r q x → ∃ v0 : Sl, ∃ v1 : Sl, r (q.add 0) = some v0.v ∧ r (q.add 1) = some v1.v ∧ PartOk g (.agg #[v0.v, v1.v]) r (wt x) (one x)) {W : World} {q : Addr} {F : Nat → Prop} {bs : List Int} {bad : Bool} (h : OutAt W q F bs bad) (hr : Rds r W F)
    {id most : Int} (hl : bs.length + (xs.map wt).sum + 60 ≤ big) (hn : xs.length ≤ big) :
    Calls Tryd.prog f_encode_section_Elem #[.pointer (some q), .int .u8 id, .int .i64 most, s.v, .func (.func g) #[] #[]] W (OutPost W q F (bs ++ (secE id most one xs).b) (bad || !(secE id most one xs).ok)) := by
  refine of_encode_section_Elem _ _ _ _ _ _ _ ?_
  unfold V_encode_section_Elem
  unfold big at hn
  have hlen : (s.len : Int) = xs.length := by rw [hx.1]
  rw [hlen]
  refine (OutSt.start h).must (fun W1 F1 st1 m1 g1 => ⟨rfl, ?_⟩)
  have hr1 := hr.step m1 g1
  refine Br.eq (fun hz => ?_) (fun hnz => ?_)
  · have hz : xs = [] := List.length_eq_zero_iff.1 (by omega)
    refine st1.end_ ?_
    rw [hz, E.nil_app]; exact (E.app_nil _).symm
  have hpart : ∀ (k : Nat) (hk : k < xs.length), (one xs[k]).b.length ≤ wt xs[k] := by
    intro k hk
    obtain ⟨qk, _, hq⟩ := hx.get hk
    obtain ⟨v0, v1, hc⟩ := hRT _ _ hq
    have := sum_get_le wt hk
    exact hc.2.2.1 (by omega)
  have hcat : ∀ k, (E.cat ((xs.take k).map one)).b.length ≤ ((xs.take k).map wt).sum := fun k => E.cat_take_len' one wt _ (fun x hx' => by
    obtain ⟨i, hi, rfl⟩ := List.getElem_of_mem (List.mem_of_mem_take hx')
    exact hpart i hi)
  have hnl := numE_len xs.length
  obtain ⟨s1, c0, c1, _⟩ := st1.out.open
  refine ⟨q, rfl, _, c1, ?_⟩
  refine Na.mk fun b27 W2 hb2 hm2 hs2 hc2 => ?_
  have hr2 : Rds r W2 (fun k => k = b27) := ⟨hr1.sub.mod0 hm2, fun p v hp e => by have := lt_of_cell (hr1.sub p v hp); omega⟩
  have pst := OutSt.start (OutAt.new hc2)
  have hn27 : ¬ F1 b27 := fun hF => by have := st1.out.lt hF; omega
  refine pst.num (by simp [E.nil]; unfold big; omega) (fun W4 G4 pst4 m4 g4 => ⟨rfl, ?_⟩)
  rw [E.nil_app (numE (xs.length : Int))] at pst4
  intro L hL
  have key : ∀ (n k : Nat) (W5 : World) (G : Nat → Prop), n = xs.length - k → k ≤ xs.length → OutSt W2 ⟨b27, 0, none⟩ (fun k => k = b27) [] (bad || !(E.nil.app ⟨[], decide ((xs.length : Int) ≤ most)⟩).ok) ((numE xs.length).app (E.cat ((xs.take k).map one))) W5 G → L (k : Int) W5 := by
    intro n
    induction n with
    | zero =>
      intro k W5 G hnk hk st
      have hk : k = xs.length := by omega
      rw [hk, List.take_length] at st
      refine hL _ _ (Br.dec (fun hlt => by omega) (fun _ => ?_))
      have hm15 : Mod NoB W1 W5 := hm2.trans st.mod (fun i hi e => by omega)
      have ost := st1.mod0 hm15
      have hdis : ∀ k, G k → ¬ F1 k := fun k hG hF => by
        have := st1.out.lt hF
        rcases st.grows k hG with h | h <;> omega
      obtain ⟨sp, hp⟩ := st.out.read hdis
      have hlc := hcat xs.length
      rw [List.take_length] at hlc
      have hpl : ([] ++ ((numE xs.length).app (E.cat (xs.map one))).b).length ≤ 10 + (xs.map wt).sum := by
        rw [List.nil_append, E.app_b, List.length_append]; omega
      refine ost.step ent_encode_out_put (bs' := (putE id _ _).b) (ok := (putE id _ _).ok) (put_spec ost.out (Rds.all W5 F1) hp id (by rw [E.nil_app, List.append_nil]; omega)) (fun W9 F9 st9 m9 g9 => ⟨rfl, ?_⟩)
      have hd := st9.done
      have hne : xs.isEmpty = false := by cases xs with | nil => exact absurd rfl hnz | cons a l => rfl
      have eb : ((E.nil.app ⟨[], decide ((xs.length : Int) ≤ most)⟩).app ⟨(putE id ([] ++ ((numE xs.length).app (E.cat (xs.map one))).b) ((bad || !(E.nil.app ⟨[], decide ((xs.length : Int) ≤ most)⟩).ok) || !((numE xs.length).app (E.cat (xs.map one))).ok)).b, (putE id ([] ++ ((numE xs.length).app (E.cat (xs.map one))).b) ((bad || !(E.nil.app ⟨[], decide ((xs.length : Int) ≤ most)⟩).ok) || !((numE xs.length).app (E.cat (xs.map one))).ok)).ok⟩).b = (secE id most one xs).b := by
        simp [secE, hne, putE, E.app, E.nil]
      have eo : (bad || !((E.nil.app ⟨[], decide ((xs.length : Int) ≤ most)⟩).app ⟨(putE id ([] ++ ((numE xs.length).app (E.cat (xs.map one))).b) ((bad || !(E.nil.app ⟨[], decide ((xs.length : Int) ≤ most)⟩).ok) || !((numE xs.length).app (E.cat (xs.map one))).ok)).b, (putE id ([] ++ ((numE xs.length).app (E.cat (xs.map one))).b) ((bad || !(E.nil.app ⟨[], decide ((xs.length : Int) ≤ most)⟩).ok) || !((numE xs.length).app (E.cat (xs.map one))).ok)).ok⟩).ok) = (bad || !(secE id most one xs).ok) := by
        exact secE_ok id most one xs hne bad
      rw [eb, eo] at hd
      exact hd
    | succ n ih =>
      intro k W5 G hnk hk st
      have hlt : k < xs.length := by omega
      refine hL _ _ (Br.dec (fun _ => ?_) (fun hge => absurd (by omega) hge))
      obtain ⟨qk, hqk, hRk⟩ := hx.get hlt
      obtain ⟨v0, v1, hc⟩ := hRT _ _ hRk
      have hr5 := st.rds hr2
      have hwk := sum_get_le wt hlt
      have hlk := hcat k
      refine ⟨qk, ⟨hqk, by omega, by omega⟩, v0, hr5.sub _ _ hc.1, v1, hr5.sub _ _ hc.2.1, ?_⟩
      refine Na.mk fun b12 W6 hb6 hm6 hs6 hc6 => ?_
      refine stC_at (b := b12) (o := 0) rfl hc6 (by simp) (by simp [Value.oneCell', Sl.v]) (fun W7 h7 m7 sz7 => ?_)
      rw [setL_all (by simp)] at h7
      have hlt12 := heap_lt hc6
      have st7 := st.mod0 (hm6.trans m7 (fun i hi e => by omega) : Mod NoB W5 W7)
      have hr7 := st7.rds hr2
      refine ⟨v0, cell_of_heap h7 rfl, v1, cell_of_heap h7 rfl, ?_⟩
      refine st7.step he (bs' := (one xs[k]).b) (ok := (one xs[k]).ok) (hc.2.2.2 _ _ _ _ _ st7.out hr7 (by rw [List.nil_append, E.app_b, List.length_append]; omega)) (fun W8 G8 st8 m8 g8 => ⟨rfl, ?_⟩)
      rw [wrap_id (by omega) (by omega)]
      refine ih (k + 1) W8 G8 (by omega) hlt ?_
      rw [E.cat_take_succ one hlt, ← E.app_assoc]
      exact st8
  exact key xs.length 0 W4 G4 (by omega) (by omega) (by rw [List.take_zero, List.map_nil, E.cat, E.app_nil]; exact pst4)

theorem section_Code_spec {α : Type} {RT : Rd → Addr → α → Prop} {one : α → E} {wt : α → Nat} {g : FuncId} (he : Ent Tryd.prog g) {r : Rd} {s : Sl} {xs : List α} (hx : SlOf 2 RT r s xs)
    (hRT : ∀ q x, RT r q x → ∃ v0 : Sl, ∃ v1 : Sl, r (q.add 0) = some v0.v ∧ r (q.add 1) = some v1.v ∧ PartOk g (.agg #[v0.v, v1.v]) r (wt x) (one x)) {W : World} {q : Addr} {F : Nat → Prop} {bs : List Int} {bad : Bool} (h : OutAt W q F bs bad) (hr : Rds r W F)
    {id most : Int} (hl : bs.length + (xs.map wt).sum + 60 ≤ big) (hn : xs.length ≤ big) :
    Calls Tryd.prog f_encode_section_Code #[.pointer (some q), .int .u8 id, .int .i64 most, s.v, .func (.func g) #[] #[]] W (OutPost W q F (bs ++ (secE id most one xs).b) (bad || !(secE id most one xs).ok)) := by
  refine of_encode_section_Code _ _ _ _ _ _ _ ?_
  unfold V_encode_section_Code
  unfold big at hn
  have hlen : (s.len : Int) = xs.length := by rw [hx.1]
  rw [hlen]
  refine (OutSt.start h).must (fun W1 F1 st1 m1 g1 => ⟨rfl, ?_⟩)
  have hr1 := hr.step m1 g1
  refine Br.eq (fun hz => ?_) (fun hnz => ?_)
  · have hz : xs = [] := List.length_eq_zero_iff.1 (by omega)
    refine st1.end_ ?_
    rw [hz, E.nil_app]; exact (E.app_nil _).symm
  have hpart : ∀ (k : Nat) (hk : k < xs.length), (one xs[k]).b.length ≤ wt xs[k] := by
    intro k hk
    obtain ⟨qk, _, hq⟩ := hx.get hk
    obtain ⟨v0, v1, hc⟩ := hRT _ _ hq
    have := sum_get_le wt hk
    exact hc.2.2.1 (by omega)
  have hcat : ∀ k, (E.cat ((xs.take k).map one)).b.length ≤ ((xs.take k).map wt).sum := fun k => E.cat_take_len' one wt _ (fun x hx' => by
    obtain ⟨i, hi, rfl⟩ := List.getElem_of_mem (List.mem_of_mem_take hx')
    exact hpart i hi)
  have hnl := numE_len xs.length
  obtain ⟨s1, c0, c1, _⟩ := st1.out.open
  refine ⟨q, rfl, _, c1, ?_⟩
  refine Na.mk fun b27 W2 hb2 hm2 hs2 hc2 => ?_
  have hr2 : Rds r W2 (fun k => k = b27) := ⟨hr1.sub.mod0 hm2, fun p v hp e => by have := lt_of_cell (hr1.sub p v hp); omega⟩
  have pst := OutSt.start (OutAt.new hc2)
  have hn27 : ¬ F1 b27 := fun hF => by have := st1.out.lt hF; omega
  refine pst.num (by simp [E.nil]; unfold big; omega) (fun W4 G4 pst4 m4 g4 => ⟨rfl, ?_⟩)
  rw [E.nil_app (numE (xs.length : Int))] at pst4
  intro L hL
  have key : ∀ (n k : Nat) (W5 : World) (G : Nat → Prop), n = xs.length - k → k ≤ xs.length → OutSt W2 ⟨b27, 0, none⟩ (fun k => k = b27) [] (bad || !(E.nil.app ⟨[], decide ((xs.length : Int) ≤ most)⟩).ok) ((numE xs.length).app (E.cat ((xs.take k).map one))) W5 G → L (k : Int) W5 := by
    intro n
    induction n with
    | zero =>
      intro k W5 G hnk hk st
      have hk : k = xs.length := by omega
      rw [hk, List.take_length] at st
      refine hL _ _ (Br.dec (fun hlt => by omega) (fun _ => ?_))
      have hm15 : Mod NoB W1 W5 := hm2.trans st.mod (fun i hi e => by omega)
      have ost := st1.mod0 hm15
      have hdis : ∀ k, G k → ¬ F1 k := fun k hG hF => by
        have := st1.out.lt hF
        rcases st.grows k hG with h | h <;> omega
      obtain ⟨sp, hp⟩ := st.out.read hdis
      have hlc := hcat xs.length
      rw [List.take_length] at hlc
      have hpl : ([] ++ ((numE xs.length).app (E.cat (xs.map one))).b).length ≤ 10 + (xs.map wt).sum := by
        rw [List.nil_append, E.app_b, List.length_append]; omega
      refine ost.step ent_encode_out_put (bs' := (putE id _ _).b) (ok := (putE id _ _).ok) (put_spec ost.out (Rds.all W5 F1) hp id (by rw [E.nil_app, List.append_nil]; omega)) (fun W9 F9 st9 m9 g9 => ⟨rfl, ?_⟩)
      have hd := st9.done
      have hne : xs.isEmpty = false := by cases xs with | nil => exact absurd rfl hnz | cons a l => rfl
      have eb : ((E.nil.app ⟨[], decide ((xs.length : Int) ≤ most)⟩).app ⟨(putE id ([] ++ ((numE xs.length).app (E.cat (xs.map one))).b) ((bad || !(E.nil.app ⟨[], decide ((xs.length : Int) ≤ most)⟩).ok) || !((numE xs.length).app (E.cat (xs.map one))).ok)).b, (putE id ([] ++ ((numE xs.length).app (E.cat (xs.map one))).b) ((bad || !(E.nil.app ⟨[], decide ((xs.length : Int) ≤ most)⟩).ok) || !((numE xs.length).app (E.cat (xs.map one))).ok)).ok⟩).b = (secE id most one xs).b := by
        simp [secE, hne, putE, E.app, E.nil]
      have eo : (bad || !((E.nil.app ⟨[], decide ((xs.length : Int) ≤ most)⟩).app ⟨(putE id ([] ++ ((numE xs.length).app (E.cat (xs.map one))).b) ((bad || !(E.nil.app ⟨[], decide ((xs.length : Int) ≤ most)⟩).ok) || !((numE xs.length).app (E.cat (xs.map one))).ok)).b, (putE id ([] ++ ((numE xs.length).app (E.cat (xs.map one))).b) ((bad || !(E.nil.app ⟨[], decide ((xs.length : Int) ≤ most)⟩).ok) || !((numE xs.length).app (E.cat (xs.map one))).ok)).ok⟩).ok) = (bad || !(secE id most one xs).ok) := by
        exact secE_ok id most one xs hne bad
      rw [eb, eo] at hd
      exact hd
    | succ n ih =>
      intro k W5 G hnk hk st
      have hlt : k < xs.length := by omega
      refine hL _ _ (Br.dec (fun _ => ?_) (fun hge => absurd (by omega) hge))
      obtain ⟨qk, hqk, hRk⟩ := hx.get hlt
      obtain ⟨v0, v1, hc⟩ := hRT _ _ hRk
      have hr5 := st.rds hr2
      have hwk := sum_get_le wt hlt
      have hlk := hcat k
      refine ⟨qk, ⟨hqk, by omega, by omega⟩, v0, hr5.sub _ _ hc.1, v1, hr5.sub _ _ hc.2.1, ?_⟩
      refine Na.mk fun b12 W6 hb6 hm6 hs6 hc6 => ?_
      refine stC_at (b := b12) (o := 0) rfl hc6 (by simp) (by simp [Value.oneCell', Sl.v]) (fun W7 h7 m7 sz7 => ?_)
      rw [setL_all (by simp)] at h7
      have hlt12 := heap_lt hc6
      have st7 := st.mod0 (hm6.trans m7 (fun i hi e => by omega) : Mod NoB W5 W7)
      have hr7 := st7.rds hr2
      refine ⟨v0, cell_of_heap h7 rfl, v1, cell_of_heap h7 rfl, ?_⟩
      refine st7.step he (bs' := (one xs[k]).b) (ok := (one xs[k]).ok) (hc.2.2.2 _ _ _ _ _ st7.out hr7 (by rw [List.nil_append, E.app_b, List.length_append]; omega)) (fun W8 G8 st8 m8 g8 => ⟨rfl, ?_⟩)
      rw [wrap_id (by omega) (by omega)]
      refine ih (k + 1) W8 G8 (by omega) hlt ?_
      rw [E.cat_take_succ one hlt, ← E.app_assoc]
      exact st8
  exact key xs.length 0 W4 G4 (by omega) (by omega) (by rw [List.take_zero, List.map_nil, E.cat, E.app_nil]; exact pst4)

theorem section_Data_spec {α : Type} {RT : Rd → Addr → α → Prop} {one : α → E} {wt : α → Nat} {g : FuncId} (he : Ent Tryd.prog g) {r : Rd} {s : Sl} {xs : List α} (hx : SlOf 2 RT r s xs)
    (hRT : ∀ q x, RT r q x → ∃ v0 : Sl, ∃ v1 : Sl, r (q.add 0) = some v0.v ∧ r (q.add 1) = some v1.v ∧ PartOk g (.agg #[v0.v, v1.v]) r (wt x) (one x)) {W : World} {q : Addr} {F : Nat → Prop} {bs : List Int} {bad : Bool} (h : OutAt W q F bs bad) (hr : Rds r W F)
    {id most : Int} (hl : bs.length + (xs.map wt).sum + 60 ≤ big) (hn : xs.length ≤ big) :
    Calls Tryd.prog f_encode_section_Data #[.pointer (some q), .int .u8 id, .int .i64 most, s.v, .func (.func g) #[] #[]] W (OutPost W q F (bs ++ (secE id most one xs).b) (bad || !(secE id most one xs).ok)) := by
  refine of_encode_section_Data _ _ _ _ _ _ _ ?_
  unfold V_encode_section_Data
  unfold big at hn
  have hlen : (s.len : Int) = xs.length := by rw [hx.1]
  rw [hlen]
  refine (OutSt.start h).must (fun W1 F1 st1 m1 g1 => ⟨rfl, ?_⟩)
  have hr1 := hr.step m1 g1
  refine Br.eq (fun hz => ?_) (fun hnz => ?_)
  · have hz : xs = [] := List.length_eq_zero_iff.1 (by omega)
    refine st1.end_ ?_
    rw [hz, E.nil_app]; exact (E.app_nil _).symm
  have hpart : ∀ (k : Nat) (hk : k < xs.length), (one xs[k]).b.length ≤ wt xs[k] := by
    intro k hk
    obtain ⟨qk, _, hq⟩ := hx.get hk
    obtain ⟨v0, v1, hc⟩ := hRT _ _ hq
    have := sum_get_le wt hk
    exact hc.2.2.1 (by omega)
  have hcat : ∀ k, (E.cat ((xs.take k).map one)).b.length ≤ ((xs.take k).map wt).sum := fun k => E.cat_take_len' one wt _ (fun x hx' => by
    obtain ⟨i, hi, rfl⟩ := List.getElem_of_mem (List.mem_of_mem_take hx')
    exact hpart i hi)
  have hnl := numE_len xs.length
  obtain ⟨s1, c0, c1, _⟩ := st1.out.open
  refine ⟨q, rfl, _, c1, ?_⟩
  refine Na.mk fun b27 W2 hb2 hm2 hs2 hc2 => ?_
  have hr2 : Rds r W2 (fun k => k = b27) := ⟨hr1.sub.mod0 hm2, fun p v hp e => by have := lt_of_cell (hr1.sub p v hp); omega⟩
  have pst := OutSt.start (OutAt.new hc2)
  have hn27 : ¬ F1 b27 := fun hF => by have := st1.out.lt hF; omega
  refine pst.num (by simp [E.nil]; unfold big; omega) (fun W4 G4 pst4 m4 g4 => ⟨rfl, ?_⟩)
  rw [E.nil_app (numE (xs.length : Int))] at pst4
  intro L hL
  have key : ∀ (n k : Nat) (W5 : World) (G : Nat → Prop), n = xs.length - k → k ≤ xs.length → OutSt W2 ⟨b27, 0, none⟩ (fun k => k = b27) [] (bad || !(E.nil.app ⟨[], decide ((xs.length : Int) ≤ most)⟩).ok) ((numE xs.length).app (E.cat ((xs.take k).map one))) W5 G → L (k : Int) W5 := by
    intro n
    induction n with
    | zero =>
      intro k W5 G hnk hk st
      have hk : k = xs.length := by omega
      rw [hk, List.take_length] at st
      refine hL _ _ (Br.dec (fun hlt => by omega) (fun _ => ?_))
      have hm15 : Mod NoB W1 W5 := hm2.trans st.mod (fun i hi e => by omega)
      have ost := st1.mod0 hm15
      have hdis : ∀ k, G k → ¬ F1 k := fun k hG hF => by
        have := st1.out.lt hF
        rcases st.grows k hG with h | h <;> omega
      obtain ⟨sp, hp⟩ := st.out.read hdis
      have hlc := hcat xs.length
      rw [List.take_length] at hlc
      have hpl : ([] ++ ((numE xs.length).app (E.cat (xs.map one))).b).length ≤ 10 + (xs.map wt).sum := by
        rw [List.nil_append, E.app_b, List.length_append]; omega
      refine ost.step ent_encode_out_put (bs' := (putE id _ _).b) (ok := (putE id _ _).ok) (put_spec ost.out (Rds.all W5 F1) hp id (by rw [E.nil_app, List.append_nil]; omega)) (fun W9 F9 st9 m9 g9 => ⟨rfl, ?_⟩)
      have hd := st9.done
      have hne : xs.isEmpty = false := by cases xs with | nil => exact absurd rfl hnz | cons a l => rfl
      have eb : ((E.nil.app ⟨[], decide ((xs.length : Int) ≤ most)⟩).app ⟨(putE id ([] ++ ((numE xs.length).app (E.cat (xs.map one))).b) ((bad || !(E.nil.app ⟨[], decide ((xs.length : Int) ≤ most)⟩).ok) || !((numE xs.length).app (E.cat (xs.map one))).ok)).b, (putE id ([] ++ ((numE xs.length).app (E.cat (xs.map one))).b) ((bad || !(E.nil.app ⟨[], decide ((xs.length : Int) ≤ most)⟩).ok) || !((numE xs.length).app (E.cat (xs.map one))).ok)).ok⟩).b = (secE id most one xs).b := by
        simp [secE, hne, putE, E.app, E.nil]
      have eo : (bad || !((E.nil.app ⟨[], decide ((xs.length : Int) ≤ most)⟩).app ⟨(putE id ([] ++ ((numE xs.length).app (E.cat (xs.map one))).b) ((bad || !(E.nil.app ⟨[], decide ((xs.length : Int) ≤ most)⟩).ok) || !((numE xs.length).app (E.cat (xs.map one))).ok)).b, (putE id ([] ++ ((numE xs.length).app (E.cat (xs.map one))).b) ((bad || !(E.nil.app ⟨[], decide ((xs.length : Int) ≤ most)⟩).ok) || !((numE xs.length).app (E.cat (xs.map one))).ok)).ok⟩).ok) = (bad || !(secE id most one xs).ok) := by
        exact secE_ok id most one xs hne bad
      rw [eb, eo] at hd
      exact hd
    | succ n ih =>
      intro k W5 G hnk hk st
      have hlt : k < xs.length := by omega
      refine hL _ _ (Br.dec (fun _ => ?_) (fun hge => absurd (by omega) hge))
      obtain ⟨qk, hqk, hRk⟩ := hx.get hlt
      obtain ⟨v0, v1, hc⟩ := hRT _ _ hRk
      have hr5 := st.rds hr2
      have hwk := sum_get_le wt hlt
      have hlk := hcat k
      refine ⟨qk, ⟨hqk, by omega, by omega⟩, v0, hr5.sub _ _ hc.1, v1, hr5.sub _ _ hc.2.1, ?_⟩
      refine Na.mk fun b12 W6 hb6 hm6 hs6 hc6 => ?_
      refine stC_at (b := b12) (o := 0) rfl hc6 (by simp) (by simp [Value.oneCell', Sl.v]) (fun W7 h7 m7 sz7 => ?_)
      rw [setL_all (by simp)] at h7
      have hlt12 := heap_lt hc6
      have st7 := st.mod0 (hm6.trans m7 (fun i hi e => by omega) : Mod NoB W5 W7)
      have hr7 := st7.rds hr2
      refine ⟨v0, cell_of_heap h7 rfl, v1, cell_of_heap h7 rfl, ?_⟩
      refine st7.step he (bs' := (one xs[k]).b) (ok := (one xs[k]).ok) (hc.2.2.2 _ _ _ _ _ st7.out hr7 (by rw [List.nil_append, E.app_b, List.length_append]; omega)) (fun W8 G8 st8 m8 g8 => ⟨rfl, ?_⟩)
      rw [wrap_id (by omega) (by omega)]
      refine ih (k + 1) W8 G8 (by omega) hlt ?_
      rw [E.cat_take_succ one hlt, ← E.app_assoc]
      exact st8
  exact key xs.length 0 W4 G4 (by omega) (by omega) (by rw [List.take_zero, List.map_nil, E.cat, E.app_nil]; exact pst4)
end Go.Proofs.YtacjnpahlbibhaaDoor
end
section
/- Contracts: encode.code. -/
set_option linter.unusedVariables false
set_option linter.unusedSimpArgs false
set_option maxRecDepth 100000
namespace Go.Proofs.YtacjnpahlbibhaaDoor
open Go Go.RowKit

theorem runsE_len : ∀ (n : Nat) (l : List Int), l.length ≤ n → (runsE l).b.length ≤ 11 * l.length := by
  intro n
  induction n with
  | zero => intro l h; have : l = [] := List.length_eq_zero_iff.1 (by omega); subst this; rw [runsE]; simp [E.nil]
  | succ n ih =>
    intro l h
    cases l with
    | nil => rw [runsE]; simp [E.nil]
    | cons a r =>
      rw [runsE]
      have h1 := numE_len ((1 + runLen a r : Nat) : Int)
      have h2 := kindsE_len [a]
      have h3 := ih (r.drop (runLen a r)) (by simp at h ⊢; omega)
      simp only [E.app_b, List.length_append, List.length_cons, List.length_nil, List.length_drop] at h2 h3 ⊢
      omega
theorem bodyE_len {x : Code} (hr : ∀ i ∈ x.body, -9223372036854775808 ≤ i.a ∧ i.a < 9223372036854775808) (hw : fcodeW x ≤ big) : (bodyE x).b.length ≤ 10 + 11 * x.locals.length + codeW x.body := by
  have h1 := numE_len (bndTo x.locals x.locals.length : Nat)
  have h2 := runsE_len _ x.locals (Nat.le_refl _)
  have h3 := writeE_len hr (by unfold fcodeW at hw; omega)
  unfold bodyE
  simp only [E.app_b, List.length_append]; omega
theorem code_part {r : Rd} {s0 s1 : Sl} {x : Code} (h0 : Ints r s0 x.locals) (h1 : CodeR r s1 x.body) : PartOk f_encode_code (.agg #[s0.v, s1.v]) r (fcodeW x) (codeE x) := by
  have key : fcodeW x ≤ big → (bodyE x).b.length ≤ 10 + 11 * x.locals.length + codeW x.body := bodyE_len (CodeR.range h1)
  have lb := numE_len (bodyE x).b.length
  refine ⟨fun hw => ?_, fun W q F bs bad h hr hl => ?_⟩
  · have := key hw
    unfold fcodeW codeE
    simp only [E.app_b, List.length_append, List.length_nil]; omega
  have hbl := key (by omega)
  unfold fcodeW big at hl
  refine of_encode_code _ _ _ _ _ ?_
  unfold V_encode_code
  refine Na.mk fun b3 W1 hb3 hm1 hs1 hc1 => ?_
  obtain ⟨r', hr1, hle, hc⟩ := laid hr ((OutSt.start h).new (W' := W1) hb3) hm1 hc1
  have c0 := hc 0 s0.v rfl
  have c1 := hc 1 s1.v rfl
  have h0' : Ints r' s0 x.locals := Ints.mono h0 hle
  have h1' : CodeR r' s1 x.body := SlOf.mono InstrR.mono hle h1
  have st1 := (OutSt.start h).mod0 hm1
  have e0 : (s0.len : Int) = x.locals.length := by rw [h0.1]
  refine ⟨s0, hr1.sub _ _ c0, ?_⟩
  rw [e0]
  refine st1.must (ok := decide ((x.locals.length : Int) ≤ 512)) (fun W2 F2 st2 m2 g2 => ⟨rfl, ?_⟩)
  have hr2 := hr1.step m2 g2
  refine Na.mk fun b16 W3 hb16 hm3 hs3 hc3 => ?_
  have hr3 : Rds r' W3 (fun k => k = b16) := ⟨hr2.sub.mod0 hm3, fun p v hp e => by have := lt_of_cell (hr2.sub p v hp); omega⟩
  have pst := OutSt.start (OutAt.new hc3)
  refine ⟨s0, hr3.sub _ _ c0, ?_⟩
  rw [e0]
  intro L hL
  have key1 : ∀ (n k : Nat) (W4 : World), n = x.locals.length - k → k ≤ x.locals.length → Mod NoB W3 W4 → L ((bndTo x.locals k : Nat) : Int) (k : Int) W4 := by
    intro n
    induction n with
    | zero =>
      intro k W4 hn hk hm4
      have hk : k = x.locals.length := by omega
      refine hL _ _ _ (Br.dec (fun hlt => by omega) (fun _ => ?_))
      subst hk
      have pst4 := pst.mod0 hm4
      refine pst4.num (by simp [E.nil]; unfold big; omega) (fun W7 G7 pst7 m7 g7 => ⟨rfl, ?_⟩)
      rw [E.nil_app (numE _)] at pst7
      intro L1 hL1
      have key2 : ∀ (m i : Nat) (Y : E) (W8 : World) (G : Nat → Prop), m = x.locals.length - i → i ≤ x.locals.length → Y.app (runsE (x.locals.drop i)) = runsE x.locals → OutSt W3 ⟨b16, 0, none⟩ (fun k => k = b16) [] false ((numE (bndTo x.locals x.locals.length : Nat)).app Y) W8 G → L1 (i : Int) W8 := by
        intro m
        induction m using Nat.strongRecOn with
        | _ m ihm =>
        intro i Y W8 G hm hi hY st
        have hr8 := st.rds hr3
        have hYl : Y.b.length + (runsE (x.locals.drop i)).b.length = (runsE x.locals).b.length := by rw [← hY, E.app_b, List.length_append]
        have hrl := runsE_len _ x.locals (Nat.le_refl _)
        have hnl := numE_len (bndTo x.locals x.locals.length : Nat)
        refine hL1 _ _ ⟨s0, hr8.sub _ _ c0, ?_⟩
        rw [e0]
        refine Br.dec (fun hlt => ?_) (fun hge => ?_)
        · have hlt : i < x.locals.length := by omega
          intro L2 hL2
          have hdrop : x.locals.drop i = x.locals[i] :: x.locals.drop (i + 1) := List.drop_eq_getElem_cons hlt
          obtain ⟨qi, hqi, hci⟩ := h0'.get hlt
          have key3 : ∀ (p j : Nat) (W9 : World), p = x.locals.length - (i + 1 + j) → i + 1 + j ≤ x.locals.length → (∀ t, t < j → (x.locals.drop (i + 1))[t]? = some x.locals[i]) → Mod NoB W8 W9 → L2 ((1 + j : Nat) : Int) W9 := by
            intro p
            induction p with
            | zero =>
              intro j W9 hp hj hall hm9
              have hj : i + 1 + j = x.locals.length := by omega
              refine hL2 _ _ ?_
              refine Dw.mk fun W10 hm10 _ => ?_
              have st10 := (st.mod0 hm9).mod0 hm10
              have hr10 := st10.rds hr3
              have w1 : IntKind.wrap .i64 ((i : Int) + ((1 + j : Nat) : Int)) = ((i + 1 + j : Nat) : Int) := by rw [wrap_id (by omega) (by omega)]; omega
              refine ⟨s0, hr10.sub _ _ c0, ?_⟩
              rw [e0, w1]
              have hf : decide (((i + 1 + j : Nat) : Int) < (x.locals.length : Int)) = false := decide_eq_false (by omega)
              rw [hf]
              refine ⟨s0, nofun, ⟨0, 0, none⟩, nofun, 0, nofun, s0, nofun, ⟨0, 0, none⟩, nofun, 0, nofun, Br.f ?_⟩
              have hrun : runLen x.locals[i] (x.locals.drop (i + 1)) = j := runLen_eq (by simp; omega) hall (fun h => by simp at h; omega)
              have hrE : runsE (x.locals.drop i) = ((numE ((1 + j : Nat) : Int)).app (kindsE [x.locals[i]])).app (runsE (x.locals.drop (i + 1 + j))) := by
                rw [hdrop, runsE, hrun, List.drop_drop]
              have hln := numE_len ((1 + j : Nat) : Int)
              have hlk := kindsE_len [x.locals[i]]
              rw [hrE] at hYl hY
              simp only [E.app_b, List.length_append, List.length_singleton] at hYl hlk
              refine st10.num (by rw [E.app_b, List.length_append, List.length_nil]; unfold big; omega) (fun W12 G12 st12 m12 g12 => ⟨rfl, s0, (st12.rds hr3).sub _ _ c0, qi, ⟨hqi, by omega, by omega⟩, x.locals[i], (st12.rds hr3).sub _ _ hci, ?_⟩)
              refine st12.kind (by simp only [E.app_b, List.length_append, List.length_nil]; unfold big; omega) (fun W14 G14 st14 m14 g14 => ⟨rfl, ?_⟩)
              refine ihm (x.locals.length - (i + 1 + j)) (by omega) (i + 1 + j) (Y.app ((numE ((1 + j : Nat) : Int)).app (kindsE [x.locals[i]]))) W14 G14 rfl (by omega) (by rw [E.app_assoc]; exact hY) ?_
              rw [← E.app_assoc, ← E.app_assoc]; exact st14
            | succ p ihp =>
              intro j W9 hp hj hall hm9
              have hlt2 : i + 1 + j < x.locals.length := by omega
              refine hL2 _ _ ?_
              refine Dw.mk fun W10 hm10 _ => ?_
              have st10 := (st.mod0 hm9).mod0 hm10
              have hr10 := st10.rds hr3
              have w1 : IntKind.wrap .i64 ((i : Int) + ((1 + j : Nat) : Int)) = ((i + 1 + j : Nat) : Int) := by rw [wrap_id (by omega) (by omega)]; omega
              have w2 : IntKind.wrap .i64 (((1 + j : Nat) : Int) + 1) = ((1 + (j + 1) : Nat) : Int) := by rw [wrap_id (by omega) (by omega)]; omega
              refine ⟨s0, hr10.sub _ _ c0, ?_⟩
              rw [e0, w1]
              have hf : decide (((i + 1 + j : Nat) : Int) < (x.locals.length : Int)) = true := decide_eq_true (by omega)
              rw [hf]
              obtain ⟨qj, hqj, hcj⟩ := h0'.get hlt2
              refine ⟨s0, fun _ => hr10.sub _ _ c0, qj, fun _ => ⟨hqj, by omega, by omega⟩, x.locals[i + 1 + j], fun _ => hr10.sub _ _ hcj, s0, fun _ => hr10.sub _ _ c0, qi, fun _ => ⟨hqi, by omega, by omega⟩, x.locals[i], fun _ => hr10.sub _ _ hci, ?_⟩
              rw [Bool.true_and]
              have hgj : (x.locals.drop (i + 1))[j]? = some x.locals[i + 1 + j] := by rw [List.getElem?_drop, List.getElem?_eq_getElem hlt2]
              refine Br.eq (fun heq => ?_) (fun hne => ?_)
              · rw [w2]
                refine ihp (j + 1) W10 (by omega) (by omega) (fun t ht => ?_) (hm9.trans0 hm10)
                by_cases htj : t = j
                · subst htj; rw [hgj, heq]
                · exact hall t (by omega)
              · have hrun : runLen x.locals[i] (x.locals.drop (i + 1)) = j := runLen_eq (by simp; omega) hall (fun h => by rw [hgj]; simpa using hne)
                have hrE : runsE (x.locals.drop i) = ((numE ((1 + j : Nat) : Int)).app (kindsE [x.locals[i]])).app (runsE (x.locals.drop (i + 1 + j))) := by
                  rw [hdrop, runsE, hrun, List.drop_drop]
                have hln := numE_len ((1 + j : Nat) : Int)
                have hlk := kindsE_len [x.locals[i]]
                rw [hrE] at hYl hY
                simp only [E.app_b, List.length_append, List.length_singleton] at hYl hlk
                refine st10.num (by rw [E.app_b, List.length_append, List.length_nil]; unfold big; omega) (fun W12 G12 st12 m12 g12 => ⟨rfl, s0, (st12.rds hr3).sub _ _ c0, qi, ⟨hqi, by omega, by omega⟩, x.locals[i], (st12.rds hr3).sub _ _ hci, ?_⟩)
                refine st12.kind (by simp only [E.app_b, List.length_append, List.length_nil]; unfold big; omega) (fun W14 G14 st14 m14 g14 => ⟨rfl, ?_⟩)
                refine ihm (x.locals.length - (i + 1 + j)) (by omega) (i + 1 + j) (Y.app ((numE ((1 + j : Nat) : Int)).app (kindsE [x.locals[i]]))) W14 G14 rfl (by omega) (by rw [E.app_assoc]; exact hY) ?_
                rw [← E.app_assoc, ← E.app_assoc]; exact st14
          exact key3 (x.locals.length - (i + 1)) 0 W8 rfl (by omega) (fun t ht => by omega) (Mod.refl _ _)
        · have hi : i = x.locals.length := by omega
          rw [hi, List.drop_length, runsE, E.app_nil] at hY
          subst hY
          refine ⟨s1, hr8.sub _ _ c1, ?_⟩
          refine st.expr hr8 h1' (by rw [E.app_b, List.length_append, List.length_nil]; unfold big; omega) (fun W15 G15 st15 m15 g15 => ⟨rfl, ?_⟩)
          have hB : ((numE (bndTo x.locals x.locals.length : Nat)).app (runsE x.locals)).app (writeE x.body) = bodyE x := rfl
          rw [hB] at st15
          have hm215 : Mod NoB W2 W15 := hm3.trans st15.mod (fun i hi e => by omega)
          have ost := st2.mod0 hm215
          have hdis : ∀ k, G15 k → ¬ F2 k := fun k hG hF => by
            have := st2.out.lt hF
            rcases st15.grows k hG with h | h <;> omega
          obtain ⟨sp, p0, p1, pb⟩ := st15.out.read hdis
          have hrp : Rds (offS W15 F2) W15 F2 := Rds.all _ _
          rw [List.nil_append] at pb
          refine ⟨_, rfl, _, hrp.sub _ _ p1, ?_⟩
          have eok : (!(false || !(bodyE x).ok)) = (bodyE x).ok := by simp
          rw [eok]
          refine ost.must (ok := (bodyE x).ok) (fun W16 F16 st16 m16 g16 => ⟨rfl, _, rfl, sp, (hrp.step m16 g16).sub _ _ p0, ?_⟩)
          have hrp16 := hrp.step m16 g16
          rw [show (sp.len : Int) = ((bodyE x).b.length : Nat) from by rw [pb.1]]
          refine st16.num (by simp [E.app, E.nil]; unfold big; omega) (fun W18 F18 st18 m18 g18 => ⟨rfl, ?_⟩)
          refine Dw.mk fun W19 hm19 _ => ?_
          have st19 := st18.mod0 hm19
          have hrp19 := (hrp16.step m18 g18).mod0 hm19
          obtain ⟨s113, d0, _⟩ := st19.out.open
          refine ⟨q, rfl, s113, d0, _, rfl, sp, hrp19.sub _ _ p0, ?_⟩
          refine st19.tail d0 (pb.src hrp19.sub) (by simp [E.app, E.nil]; unfold big; omega) (fun W21 F21 st21 m21 g21 => st21.end_ ?_)
          unfold codeE
          rw [E.nil_app, E.app_assoc]
      exact key2 _ 0 E.nil W7 G7 rfl (by omega) (by rw [E.nil_app, List.drop_zero]) (by rw [E.app_nil]; exact pst7)
    | succ n ih =>
      intro k W4 hn hk hm4
      have hlt : k < x.locals.length := by omega
      refine hL _ _ _ (Br.dec (fun _ => ?_) (fun hge => absurd (by omega) hge))
      refine Dw.mk fun W5 hm5 _ => ?_
      have hm35 := hm4.trans0 hm5
      have hr5 := hr3.mod0 hm35
      obtain ⟨qk, hqk, hck⟩ := h0'.get hlt
      have w3 : IntKind.wrap .i64 ((k : Int) + 1) = ((k + 1 : Nat) : Int) := by rw [wrap_id (by omega) (by omega)]; omega
      have hbl := bndTo_le x.locals k
      have w4 : IntKind.wrap .i64 (((bndTo x.locals k : Nat) : Int) + 1) = ((bndTo x.locals k + 1 : Nat) : Int) := by rw [wrap_id (by omega) (by omega)]; omega
      by_cases hk0 : k = 0
      · subst hk0
        refine ⟨s0, nofun, ⟨0, 0, none⟩, nofun, 0, nofun, s0, nofun, ⟨0, 0, none⟩, nofun, 0, nofun, ?_⟩
        refine Br.mk (fun _ => ?_) (fun h => by simp at h)
        rw [w3, w4]
        have : bndTo x.locals 0 + 1 = bndTo x.locals (0 + 1) := by rw [bndTo_succ, if_pos (.inl rfl)]
        rw [this]
        exact ih (0 + 1) W5 (by omega) hlt hm35
      · have hne : ((k : Int) == 0) = false := by simp; omega
        have w5 : IntKind.wrap .i64 ((k : Int) - 1) = ((k - 1 : Nat) : Int) := by rw [wrap_id (by omega) (by omega)]; omega
        obtain ⟨qp, hqp, hcp⟩ := h0'.get (i := k - 1) (by omega)
        rw [hne, w5]
        refine ⟨s0, fun _ => hr5.sub _ _ c0, qk, fun _ => ⟨hqk, by omega, by omega⟩, _, fun _ => hr5.sub _ _ hck, s0, fun _ => hr5.sub _ _ c0, qp, fun _ => ⟨hqp, by omega, by omega⟩, _, fun _ => hr5.sub _ _ hcp, ?_⟩
        rw [Bool.false_or]
        refine Br.ne (fun h => ?_) (fun h => ?_)
        · rw [w3, w4]
          have hd : x.locals[k]? ≠ x.locals[k - 1]? := by
            rw [List.getElem?_eq_getElem hlt, List.getElem?_eq_getElem (by omega)]
            intro e; exact h (by simpa using e)
          have : bndTo x.locals k + 1 = bndTo x.locals (k + 1) := by rw [bndTo_succ, if_pos (.inr hd)]
          rw [this]
          exact ih (k + 1) W5 (by omega) hlt hm35
        · rw [w3]
          have hd : ¬ (k = 0 ∨ x.locals[k]? ≠ x.locals[k - 1]?) := by
            rw [List.getElem?_eq_getElem hlt, List.getElem?_eq_getElem (by omega)]
            rintro (e | e)
            · exact hk0 e
            · exact e (by simpa using h)
          have : bndTo x.locals k = bndTo x.locals (k + 1) := by rw [bndTo_succ, if_neg hd, Nat.add_zero]
          rw [this]
          exact ih (k + 1) W5 (by omega) hlt hm35
  exact key1 _ 0 W3 rfl (by omega) (Mod.refl _ _)
end Go.Proofs.YtacjnpahlbibhaaDoor
end
section
/- Contracts: encode.Encode. -/
set_option linter.unusedVariables false
set_option linter.unusedSimpArgs false
set_option maxRecDepth 100000
namespace Go.Proofs.YtacjnpahlbibhaaDoor
open Go Go.RowKit

/-- A constant's bytes: the block gets a mark behind its last cell. -/
theorem conv_self {W : World} {b n : Nat} {cs : Array Value} (hc : W.heap[b]? = some (.cells cs 5 (0, 0))) {K : Value → World → Prop}
    (hk : ∀ W', W'.heap[b]? = some (.cells cs 5 (cs.size, cs.size + 1)) → Mod (fun k => k = b) W W' → W'.heap.size = W.heap.size → K (.slice (some ⟨b, 0, none⟩) n n) W') :
    RunV Tryd.prog (convert 59 59 (.slice (some ⟨b, 0, none⟩) n n)) W K := by
  have h1 : Program.underlying Tryd.prog 59 = some (.slice 5) := by kernel_rfl
  have h2 : Program.underlying Tryd.prog 5 = some (.int .u8) := by kernel_rfl
  have hsh : W.shape? b = some (5, cs.size) := by unfold World.shape?; rw [hc]
  have hrun : (convert 59 59 (.slice (some ⟨b, 0, none⟩) n n)).run Tryd.prog W = .ok (.slice (some ⟨b, 0, none⟩) n n) (W.freeze ⟨b, cs.size, none⟩ 1) := by
    simp [convert, run_underlying h1, run_underlying h2, markStringish, hsh]
  unfold RunV
  rw [hrun]
  refine hk _ ?_ ?_ ?_
  · unfold World.freeze
    rw [if_neg (by decide)]
    show (W.heap.modify b _)[b]? = _
    rw [Array.getElem?_modify, if_pos rfl, hc]
    rfl
  · unfold World.freeze
    rw [if_neg (by decide)]
    refine ⟨rfl, rfl, rfl, by simp, fun k hk hn => ?_⟩
    show (W.heap.modify b _)[k]? = _
    rw [Array.getElem?_modify, if_neg (fun e => hn e.symm)]
  · unfold World.freeze
    rw [if_neg (by decide)]
    simp

/-! ### Parts that stand in memory -/
def SigR (r : Rd) (q : Addr) (x : Sig) : Prop := ∃ s0 s1 : Sl, r (q.add 0) = some s0.v ∧ r (q.add 1) = some s1.v ∧ Ints r s0 x.ins ∧ Ints r s1 x.outs ∧ (x.ins.length ≤ 1099511627776 ∧ x.outs.length ≤ 1099511627776)
def ImportR (r : Rd) (q : Addr) (x : Import) : Prop := r (q.add 0) = some (.string x.mod) ∧ r (q.add 1) = some (.string x.name) ∧ r (q.add 2) = some (.int .i64 x.type)
def FuncR (r : Rd) (q : Addr) (x : Int) : Prop := r q = some (.int .i64 x)
def LimitsR (r : Rd) (q : Addr) (x : Limits) : Prop := r (q.add 0) = some (.int .i64 x.min) ∧ r (q.add 1) = some (.int .i64 x.max)
def GlobalR (r : Rd) (q : Addr) (x : Global) : Prop := r (q.add 0) = some (.int .i64 x.type) ∧ r (q.add 1) = some (.bool x.chg) ∧ ∃ s : Sl, r (q.add 2) = some s.v ∧ CodeR r s x.init
def ExportR (r : Rd) (q : Addr) (x : Export) : Prop := r (q.add 0) = some (.string x.name) ∧ r (q.add 1) = some (.int .i64 x.kind) ∧ r (q.add 2) = some (.int .i64 x.index)
def ElemR (r : Rd) (q : Addr) (x : Elem) : Prop := ∃ s0 s1 : Sl, r (q.add 0) = some s0.v ∧ r (q.add 1) = some s1.v ∧ CodeR r s0 x.offset ∧ Ints r s1 x.funcs ∧ x.funcs.length ≤ 1099511627776
def FCodeR (r : Rd) (q : Addr) (x : Code) : Prop := ∃ s0 s1 : Sl, r (q.add 0) = some s0.v ∧ r (q.add 1) = some s1.v ∧ Ints r s0 x.locals ∧ CodeR r s1 x.body
def DataR (r : Rd) (q : Addr) (x : Data) : Prop := ∃ s0 s1 : Sl, r (q.add 0) = some s0.v ∧ r (q.add 1) = some s1.v ∧ CodeR r s0 x.offset ∧ Bytes r s1 x.bytes
/-- A module's slices. -/
structure MSl where
  types : Sl
  imports : Sl
  funcs : Sl
  tables : Sl
  mems : Sl
  globals : Sl
  exports : Sl
  elems : Sl
  codes : Sl
  datas : Sl
structure ModR (r : Rd) (S : MSl) (m : Module) : Prop where
  types : SlOf 2 SigR r S.types m.types
  imports : SlOf 3 ImportR r S.imports m.imports
  funcs : SlOf 1 FuncR r S.funcs m.funcs
  tables : SlOf 2 LimitsR r S.tables m.tables
  mems : SlOf 2 LimitsR r S.mems m.mems
  globals : SlOf 3 GlobalR r S.globals m.globals
  exports : SlOf 3 ExportR r S.exports m.exports
  elems : SlOf 2 ElemR r S.elems m.elems
  codes : SlOf 2 FCodeR r S.codes m.codes
  datas : SlOf 2 DataR r S.datas m.datas
theorem ModR.mono {r r' : Rd} {S : MSl} {m : Module} (hl : Le r r') (h : ModR r S m) : ModR r' S m where
  types := SlOf.mono (fun r r' q x hl ⟨s0, s1, h0, h1, h2, h3, h4⟩ => ⟨s0, s1, hl _ _ h0, hl _ _ h1, Ints.mono h2 hl, Ints.mono h3 hl, h4⟩) hl h.types
  imports := SlOf.mono (fun r r' q x hl ⟨h0, h1, h2⟩ => ⟨hl _ _ h0, hl _ _ h1, hl _ _ h2⟩) hl h.imports
  funcs := SlOf.mono (R := FuncR) (fun r r' q x hl h => hl q _ h) hl h.funcs
  tables := SlOf.mono (fun r r' q x hl ⟨h0, h1⟩ => ⟨hl _ _ h0, hl _ _ h1⟩) hl h.tables
  mems := SlOf.mono (fun r r' q x hl ⟨h0, h1⟩ => ⟨hl _ _ h0, hl _ _ h1⟩) hl h.mems
  globals := SlOf.mono (fun r r' q x hl ⟨h0, h1, s, h2, h3⟩ => ⟨hl _ _ h0, hl _ _ h1, s, hl _ _ h2, SlOf.mono InstrR.mono hl h3⟩) hl h.globals
  exports := SlOf.mono (fun r r' q x hl ⟨h0, h1, h2⟩ => ⟨hl _ _ h0, hl _ _ h1, hl _ _ h2⟩) hl h.exports
  elems := SlOf.mono (fun r r' q x hl ⟨s0, s1, h0, h1, h2, h3, h4⟩ => ⟨s0, s1, hl _ _ h0, hl _ _ h1, SlOf.mono InstrR.mono hl h2, Ints.mono h3 hl, h4⟩) hl h.elems
  codes := SlOf.mono (fun r r' q x hl ⟨s0, s1, h0, h1, h2, h3⟩ => ⟨s0, s1, hl _ _ h0, hl _ _ h1, Ints.mono h2 hl, SlOf.mono InstrR.mono hl h3⟩) hl h.codes
  datas := SlOf.mono (fun r r' q x hl ⟨s0, s1, h0, h1, h2, h3⟩ => ⟨s0, s1, hl _ _ h0, hl _ _ h1, SlOf.mono InstrR.mono hl h2, Ints.mono h3 hl⟩) hl h.datas
def msum {α : Type} (w : α → Nat) (l : List α) : Nat := (l.map w).sum
/-- Room that a module may take. -/
structure ModW (m : Module) : Prop where
  room : 1000 + msum sigW m.types + msum importW m.imports + msum (fun _ => 10) m.funcs + msum (fun _ => 60) m.tables + msum (fun _ => 60) m.mems + msum globalW m.globals + msum exportW m.exports + msum elemW m.elems + msum fcodeW m.codes + msum dataW m.datas ≤ big
  types : m.types.length ≤ 1099511627776
  imports : m.imports.length ≤ 1099511627776
  funcs : m.funcs.length ≤ 1099511627776
  tables : m.tables.length ≤ 1099511627776
  mems : m.mems.length ≤ 1099511627776
  globals : m.globals.length ≤ 1099511627776
  exports : m.exports.length ≤ 1099511627776
  elems : m.elems.length ≤ 1099511627776
  codes : m.codes.length ≤ 1099511627776
  datas : m.datas.length ≤ 1099511627776
def magicB : List Int := [0, 97, 115, 109, 1, 0, 0, 0]
def startE (n : Int) : E := if n ≥ 0 then putE 8 (numE n).b (!(numE n).ok) else E.nil
def encPre (m : Module) : E :=
  ((((((((E.app ⟨[], (m.funcs.length : Int) == (m.codes.length : Int)⟩ (secE 1 256 sigE m.types)).app (secE 2 512 importE m.imports)).app (secE 3 512 numE m.funcs)).app (secE 4 512 tableE m.tables)).app (secE 5 512 memE m.mems)).app (secE 6 512 globalE m.globals)).app (secE 7 512 exportE m.exports)).app ⟨[], decide (m.start ≥ -1)⟩)
def encE (m : Module) : E :=
  ((((encPre m).app (startE m.start)).app (secE 9 512 elemE m.elems)).app (secE 10 512 codeE m.codes)).app (secE 11 512 dataE m.datas)
/-- What Encode answers of a module. -/
def encR (m : Module) : Int := if (encE m).ok then (if ((magicB ++ (encE m).b).length : Int) > 16384 then 4 else 0) else 1
theorem secE_len {α : Type} (id most : Int) (one : α → E) (wt : α → Nat) (xs : List α) (h : ∀ x ∈ xs, (one x).b.length ≤ wt x) : (secE id most one xs).b.length ≤ msum wt xs + 40 := by
  have h1 := E.cat_take_len' one wt xs h
  have h2 := numE_len xs.length
  have h3 := numE_len ((numE xs.length).app (E.cat (xs.map one))).b.length
  unfold secE msum
  split
  · simp [E.app, E.nil]
  · simp only [E.app_b, List.length_append, List.length_cons, List.length_nil] at h3 ⊢; omega
end Go.Proofs.YtacjnpahlbibhaaDoor
end
section
/- Contracts: encode.Encode. (mkEncH.py printed this) -/
set_option linter.unusedVariables false
set_option linter.unusedSimpArgs false
set_option maxRecDepth 100000
namespace Go.Proofs.YtacjnpahlbibhaaDoor
open Go Go.RowKit

theorem msum_mem {α : Type} (wt : α → Nat) {xs : List α} {x : α} (h : x ∈ xs) : wt x ≤ msum wt xs := by
  obtain ⟨i, hi, rfl⟩ := List.getElem_of_mem h
  have := sum_get_le wt hi
  unfold msum; omega
theorem types_RT {r : Rd} (ht : TabsR r) : ∀ (q : Addr) (x : Sig), SigR r q x → ∃ v0 : Sl, ∃ v1 : Sl, r (q.add 0) = some v0.v ∧ r (q.add 1) = some v1.v ∧ PartOk f_encode_Encode_1 (.agg #[v0.v, v1.v]) r (sigW x) (sigE x) := by
  intro q x h
  obtain ⟨s0, s1, h0, h1, h2, h3, h4⟩ := h
  exact ⟨s0, s1, h0, h1, sig_part h2 h3 h4⟩
theorem types_len {r : Rd} (ht : TabsR r) {s : Sl} {xs : List Sig} (h : SlOf 2 SigR r s xs) (hw : msum sigW xs ≤ big) : (secE 1 256 sigE xs).b.length ≤ msum sigW xs + 40 := by
  refine secE_len _ _ _ sigW xs (fun x hx => ?_)
  have hle := msum_mem sigW hx
  obtain ⟨i, hi, rfl⟩ := List.getElem_of_mem hx
  obtain ⟨qi, _, hq⟩ := h.get hi
  obtain ⟨_, _, _, _, hp⟩ := types_RT ht _ _ hq
  exact hp.1 (Nat.le_trans hle hw)
theorem imports_RT {r : Rd} (ht : TabsR r) : ∀ (q : Addr) (x : Import), ImportR r q x → ∃ v0 : ByteArray, ∃ v1 : ByteArray, ∃ v2 : Int, r (q.add 0) = some (.string v0) ∧ r (q.add 1) = some (.string v1) ∧ r (q.add 2) = some (.int .i64 v2) ∧ PartOk f_encode_Encode_2 (.agg #[(.string v0), (.string v1), (.int .i64 v2)]) r (importW x) (importE x) := by
  intro q x h
  exact ⟨_, _, _, h.1, h.2.1, h.2.2, import_part ht x⟩
theorem imports_len {r : Rd} (ht : TabsR r) {s : Sl} {xs : List Import} (h : SlOf 3 ImportR r s xs) (hw : msum importW xs ≤ big) : (secE 2 512 importE xs).b.length ≤ msum importW xs + 40 := by
  refine secE_len _ _ _ importW xs (fun x hx => ?_)
  have hle := msum_mem importW hx
  obtain ⟨i, hi, rfl⟩ := List.getElem_of_mem hx
  obtain ⟨qi, _, hq⟩ := h.get hi
  obtain ⟨_, _, _, _, _, _, hp⟩ := imports_RT ht _ _ hq
  exact hp.1 (Nat.le_trans hle hw)
theorem funcs_RT {r : Rd} (ht : TabsR r) : ∀ (q : Addr) (x : Int), FuncR r q x → ∃ v0 : Int, r q = some (.int .i64 v0) ∧ PartOk f_encode_Encode_3 ((.int .i64 v0)) r ((fun _ => 10) x) (numE x) := by
  intro q x h
  exact ⟨_, h, func_part x⟩
theorem funcs_len {r : Rd} (ht : TabsR r) {s : Sl} {xs : List Int} (h : SlOf 1 FuncR r s xs) (hw : msum (fun _ => 10) xs ≤ big) : (secE 3 512 numE xs).b.length ≤ msum (fun _ => 10) xs + 40 := by
  refine secE_len _ _ _ (fun _ => 10) xs (fun x hx => ?_)
  have hle := msum_mem (fun _ => 10) hx
  obtain ⟨i, hi, rfl⟩ := List.getElem_of_mem hx
  obtain ⟨qi, _, hq⟩ := h.get hi
  obtain ⟨_, _, hp⟩ := funcs_RT ht _ _ hq
  exact hp.1 (Nat.le_trans hle hw)
theorem tables_RT {r : Rd} (ht : TabsR r) : ∀ (q : Addr) (x : Limits), LimitsR r q x → ∃ v0 : Int, ∃ v1 : Int, r (q.add 0) = some (.int .i64 v0) ∧ r (q.add 1) = some (.int .i64 v1) ∧ PartOk f_encode_Encode_4 (.agg #[(.int .i64 v0), (.int .i64 v1)]) r ((fun _ => 60) x) (tableE x) := by
  intro q x h
  exact ⟨_, _, h.1, h.2, table_part x⟩
theorem tables_len {r : Rd} (ht : TabsR r) {s : Sl} {xs : List Limits} (h : SlOf 2 LimitsR r s xs) (hw : msum (fun _ => 60) xs ≤ big) : (secE 4 512 tableE xs).b.length ≤ msum (fun _ => 60) xs + 40 := by
  refine secE_len _ _ _ (fun _ => 60) xs (fun x hx => ?_)
  have hle := msum_mem (fun _ => 60) hx
  obtain ⟨i, hi, rfl⟩ := List.getElem_of_mem hx
  obtain ⟨qi, _, hq⟩ := h.get hi
  obtain ⟨_, _, _, _, hp⟩ := tables_RT ht _ _ hq
  exact hp.1 (Nat.le_trans hle hw)
theorem mems_RT {r : Rd} (ht : TabsR r) : ∀ (q : Addr) (x : Limits), LimitsR r q x → ∃ v0 : Int, ∃ v1 : Int, r (q.add 0) = some (.int .i64 v0) ∧ r (q.add 1) = some (.int .i64 v1) ∧ PartOk f_encode_Encode_5 (.agg #[(.int .i64 v0), (.int .i64 v1)]) r ((fun _ => 60) x) (memE x) := by
  intro q x h
  exact ⟨_, _, h.1, h.2, mem_part x⟩
theorem mems_len {r : Rd} (ht : TabsR r) {s : Sl} {xs : List Limits} (h : SlOf 2 LimitsR r s xs) (hw : msum (fun _ => 60) xs ≤ big) : (secE 5 512 memE xs).b.length ≤ msum (fun _ => 60) xs + 40 := by
  refine secE_len _ _ _ (fun _ => 60) xs (fun x hx => ?_)
  have hle := msum_mem (fun _ => 60) hx
  obtain ⟨i, hi, rfl⟩ := List.getElem_of_mem hx
  obtain ⟨qi, _, hq⟩ := h.get hi
  obtain ⟨_, _, _, _, hp⟩ := mems_RT ht _ _ hq
  exact hp.1 (Nat.le_trans hle hw)
theorem globals_RT {r : Rd} (ht : TabsR r) : ∀ (q : Addr) (x : Global), GlobalR r q x → ∃ v0 : Int, ∃ v1 : Bool, ∃ v2 : Sl, r (q.add 0) = some (.int .i64 v0) ∧ r (q.add 1) = some (.bool v1) ∧ r (q.add 2) = some v2.v ∧ PartOk f_encode_global (.agg #[(.int .i64 v0), (.bool v1), v2.v]) r (globalW x) (globalE x) := by
  intro q x h
  obtain ⟨h0, h1, s, h2, h3⟩ := h
  exact ⟨_, _, s, h0, h1, h2, global_part h3⟩
theorem globals_len {r : Rd} (ht : TabsR r) {s : Sl} {xs : List Global} (h : SlOf 3 GlobalR r s xs) (hw : msum globalW xs ≤ big) : (secE 6 512 globalE xs).b.length ≤ msum globalW xs + 40 := by
  refine secE_len _ _ _ globalW xs (fun x hx => ?_)
  have hle := msum_mem globalW hx
  obtain ⟨i, hi, rfl⟩ := List.getElem_of_mem hx
  obtain ⟨qi, _, hq⟩ := h.get hi
  obtain ⟨_, _, _, _, _, _, hp⟩ := globals_RT ht _ _ hq
  exact hp.1 (Nat.le_trans hle hw)
theorem exports_RT {r : Rd} (ht : TabsR r) : ∀ (q : Addr) (x : Export), ExportR r q x → ∃ v0 : ByteArray, ∃ v1 : Int, ∃ v2 : Int, r (q.add 0) = some (.string v0) ∧ r (q.add 1) = some (.int .i64 v1) ∧ r (q.add 2) = some (.int .i64 v2) ∧ PartOk f_encode_Encode_6 (.agg #[(.string v0), (.int .i64 v1), (.int .i64 v2)]) r (exportW x) (exportE x) := by
  intro q x h
  exact ⟨_, _, _, h.1, h.2.1, h.2.2, export_part ht x⟩
theorem exports_len {r : Rd} (ht : TabsR r) {s : Sl} {xs : List Export} (h : SlOf 3 ExportR r s xs) (hw : msum exportW xs ≤ big) : (secE 7 512 exportE xs).b.length ≤ msum exportW xs + 40 := by
  refine secE_len _ _ _ exportW xs (fun x hx => ?_)
  have hle := msum_mem exportW hx
  obtain ⟨i, hi, rfl⟩ := List.getElem_of_mem hx
  obtain ⟨qi, _, hq⟩ := h.get hi
  obtain ⟨_, _, _, _, _, _, hp⟩ := exports_RT ht _ _ hq
  exact hp.1 (Nat.le_trans hle hw)
theorem elems_RT {r : Rd} (ht : TabsR r) : ∀ (q : Addr) (x : Elem), ElemR r q x → ∃ v0 : Sl, ∃ v1 : Sl, r (q.add 0) = some v0.v ∧ r (q.add 1) = some v1.v ∧ PartOk f_encode_Encode_7 (.agg #[v0.v, v1.v]) r (elemW x) (elemE x) := by
  intro q x h
  obtain ⟨s0, s1, h0, h1, h2, h3, h4⟩ := h
  exact ⟨s0, s1, h0, h1, elem_part h2 h3 h4⟩
theorem elems_len {r : Rd} (ht : TabsR r) {s : Sl} {xs : List Elem} (h : SlOf 2 ElemR r s xs) (hw : msum elemW xs ≤ big) : (secE 9 512 elemE xs).b.length ≤ msum elemW xs + 40 := by
  refine secE_len _ _ _ elemW xs (fun x hx => ?_)
  have hle := msum_mem elemW hx
  obtain ⟨i, hi, rfl⟩ := List.getElem_of_mem hx
  obtain ⟨qi, _, hq⟩ := h.get hi
  obtain ⟨_, _, _, _, hp⟩ := elems_RT ht _ _ hq
  exact hp.1 (Nat.le_trans hle hw)
theorem codes_RT {r : Rd} (ht : TabsR r) : ∀ (q : Addr) (x : Code), FCodeR r q x → ∃ v0 : Sl, ∃ v1 : Sl, r (q.add 0) = some v0.v ∧ r (q.add 1) = some v1.v ∧ PartOk f_encode_code (.agg #[v0.v, v1.v]) r (fcodeW x) (codeE x) := by
  intro q x h
  obtain ⟨s0, s1, h0, h1, h2, h3⟩ := h
  exact ⟨s0, s1, h0, h1, code_part h2 h3⟩
theorem codes_len {r : Rd} (ht : TabsR r) {s : Sl} {xs : List Code} (h : SlOf 2 FCodeR r s xs) (hw : msum fcodeW xs ≤ big) : (secE 10 512 codeE xs).b.length ≤ msum fcodeW xs + 40 := by
  refine secE_len _ _ _ fcodeW xs (fun x hx => ?_)
  have hle := msum_mem fcodeW hx
  obtain ⟨i, hi, rfl⟩ := List.getElem_of_mem hx
  obtain ⟨qi, _, hq⟩ := h.get hi
  obtain ⟨_, _, _, _, hp⟩ := codes_RT ht _ _ hq
  exact hp.1 (Nat.le_trans hle hw)
theorem datas_RT {r : Rd} (ht : TabsR r) : ∀ (q : Addr) (x : Data), DataR r q x → ∃ v0 : Sl, ∃ v1 : Sl, r (q.add 0) = some v0.v ∧ r (q.add 1) = some v1.v ∧ PartOk f_encode_Encode_8 (.agg #[v0.v, v1.v]) r (dataW x) (dataE x) := by
  intro q x h
  obtain ⟨s0, s1, h0, h1, h2, h3⟩ := h
  exact ⟨s0, s1, h0, h1, data_part h2 h3⟩
theorem datas_len {r : Rd} (ht : TabsR r) {s : Sl} {xs : List Data} (h : SlOf 2 DataR r s xs) (hw : msum dataW xs ≤ big) : (secE 11 512 dataE xs).b.length ≤ msum dataW xs + 40 := by
  refine secE_len _ _ _ dataW xs (fun x hx => ?_)
  have hle := msum_mem dataW hx
  obtain ⟨i, hi, rfl⟩ := List.getElem_of_mem hx
  obtain ⟨qi, _, hq⟩ := h.get hi
  obtain ⟨_, _, _, _, hp⟩ := datas_RT ht _ _ hq
  exact hp.1 (Nat.le_trans hle hw)
theorem startE_len (n : Int) : (startE n).b.length ≤ 40 := by
  have h1 := numE_len n
  have h2 := putE_len 8 (numE n).b (!(numE n).ok)
  unfold startE; split
  · omega
  · simp [E.nil]
theorem Encode_spec {W : World} {r : Rd} (hr : Sub r W) (ht : TabsR r) {S : MSl} {m : Module} (hm : ModR r S m) (hw : ModW m) :
    Calls Tryd.prog f_encode_Encode #[.agg #[S.types.v, S.imports.v, S.funcs.v, S.tables.v, S.mems.v, S.globals.v, S.exports.v, .int .i64 m.start, S.elems.v, S.codes.v, S.datas.v]] W
      fun e W' => ∃ t : Sl, e = .returned (.tuple #[t.v, .int .i64 (encR m)]) ∧ Mod NoB W W' := by
  have l_types := types_len ht hm.types (by have := hw.room; omega)
  have l_imports := imports_len ht hm.imports (by have := hw.room; omega)
  have l_funcs := funcs_len ht hm.funcs (by have := hw.room; omega)
  have l_tables := tables_len ht hm.tables (by have := hw.room; omega)
  have l_mems := mems_len ht hm.mems (by have := hw.room; omega)
  have l_globals := globals_len ht hm.globals (by have := hw.room; omega)
  have l_exports := exports_len ht hm.exports (by have := hw.room; omega)
  have l_elems := elems_len ht hm.elems (by have := hw.room; omega)
  have l_codes := codes_len ht hm.codes (by have := hw.room; omega)
  have l_datas := datas_len ht hm.datas (by have := hw.room; omega)
  have hroom := hw.room
  have hrm := hroom
  unfold big at hrm
  have lst := startE_len m.start
  refine of_encode_Encode _ _ _ _ _ _ _ _ _ _ _ _ _ ?_
  unfold V_encode_Encode
  refine Na.mk fun b1 W1 hb1 hm1 hs1 hc1 => ?_
  refine Na.mk fun b6 W2 hb6 hm2 hs2 hc2 => ?_
  refine conv_self hc2 (fun W3 h3 m3 sz3 => ⟨⟨some ⟨b6, 0, none⟩, 8, 8⟩, rfl, ?_⟩)
  refine Na.mk fun b9 W4 hb9 hm4 hs4 hc4 => ?_
  have lt1 := heap_lt hc1
  have lt2 := heap_lt hc2
  have hm24 : Mod NoB W1 W4 := (hm2.trans m3 (fun i hi e => by omega)).trans0 hm4
  have h14 := hm24.heap hc1 (fun h => h)
  have hm04 : Mod NoB W W4 := hm1.trans0 hm24
  -- the output
  have hout : OutAt W4 ⟨b9, 0, none⟩ (fun k => k = b9 ∨ k = b6) magicB false := by
    refine ⟨b9, ⟨some ⟨b6, 0, none⟩, 8, 8⟩, rfl, hc4, ?_, ?_, .inl rfl, ?_, ?_⟩
    · exact ⟨rfl, .inr ⟨b6, _, _, rfl, hm4.heap h3 (fun h => h), .inr (Nat.le_refl _), Nat.le_refl _, (by show 8 ≤ maxLen; unfold maxLen; omega), rfl, rfl⟩⟩
    · rintro ⟨q, hq, e⟩; cases hq; change b6 = b9 at e; omega
    · rintro b ⟨q, hq, e⟩; cases hq; exact .inr e.symm
    · rintro b (e | e)
      · rw [e]; exact heap_lt hc4
      · rw [e]; have := hm4.size; omega
  -- what is read
  obtain ⟨r', hr', hle, hc⟩ : ∃ r', Rds r' W4 (fun k => k = b9 ∨ k = b6) ∧ Le r r' ∧ ∀ (i : Nat) (v : Value), (#[S.types.v, S.imports.v, S.funcs.v, S.tables.v, S.mems.v, S.globals.v, S.exports.v, .int .i64 m.start, S.elems.v, S.codes.v, S.datas.v] : Array Value)[i]? = some v → r' ((⟨b1, 0, none⟩ : Addr).add i) = some v := by
    refine ⟨offS W4 (fun k => k = b9 ∨ k = b6), Rds.all _ _, fun p v hp => offS_of (hm04.cell (hr p v hp) (fun h => h)) (fun h => ?_), fun i v hv => ?_⟩
    · have := lt_of_cell (hr p v hp); have := hm1.size; rcases h with h | h <;> omega
    · rw [add_mk]
      exact offS_of (cell_of_heap h14 (by rw [Nat.zero_add]; exact hv)) (fun h => by rcases h with h | h <;> (simp only at h; omega))
  have st0 := OutSt.start hout
  have ht' := ht.mono hle
  have lmag : magicB.length = 8 := rfl
  have hmono : ModR r' S m := ModR.mono hle hm
  refine ⟨S.funcs, hr'.sub _ _ (hc 2 _ rfl), S.codes, hr'.sub _ _ (hc 9 _ rfl), ?_⟩
  rw [hm.funcs.1, hm.codes.1]
  refine st0.must (fun W5 F5 st5 m5 g5 => ⟨rfl, ?_⟩)
  have hr5 := hr'.step m5 g5
  rw [E.nil_app] at st5
  refine ⟨S.types, hr5.sub _ _ (hc 0 _ rfl), ?_⟩
  refine st5.step ent_encode_section_Sig (bs' := (secE 1 256 sigE m.types).b) (ok := (secE 1 256 sigE m.types).ok) (section_Sig_spec (wt := sigW) ent_encode_Encode_1 hmono.types (types_RT ht') st5.out hr5 (by
    change (magicB ++ _).length + msum sigW m.types + 60 ≤ _
    simp only [encPre, E.app_b, List.length_append, List.length_nil, lmag]; unfold big; omega) hw.types) (fun W6 F6 st6 m6 g6 => ⟨rfl, ?_⟩)
  have hr6 := hr5.step m6 g6
  replace st6 : OutSt W4 ⟨b9, 0, none⟩ (fun k => k = b9 ∨ k = b6) magicB false (E.app _ (secE 1 256 sigE m.types)) W6 F6 := st6
  refine ⟨S.imports, hr6.sub _ _ (hc 1 _ rfl), ?_⟩
  refine st6.step ent_encode_section_Import (bs' := (secE 2 512 importE m.imports).b) (ok := (secE 2 512 importE m.imports).ok) (section_Import_spec (wt := importW) ent_encode_Encode_2 hmono.imports (imports_RT ht') st6.out hr6 (by
    change (magicB ++ _).length + msum importW m.imports + 60 ≤ _
    simp only [encPre, E.app_b, List.length_append, List.length_nil, lmag]; unfold big; omega) hw.imports) (fun W7 F7 st7 m7 g7 => ⟨rfl, ?_⟩)
  have hr7 := hr6.step m7 g7
  replace st7 : OutSt W4 ⟨b9, 0, none⟩ (fun k => k = b9 ∨ k = b6) magicB false (E.app _ (secE 2 512 importE m.imports)) W7 F7 := st7
  refine ⟨S.funcs, hr7.sub _ _ (hc 2 _ rfl), ?_⟩
  refine st7.step ent_encode_section_int (bs' := (secE 3 512 numE m.funcs).b) (ok := (secE 3 512 numE m.funcs).ok) (section_int_spec (wt := (fun _ => 10)) ent_encode_Encode_3 hmono.funcs (funcs_RT ht') st7.out hr7 (by
    change (magicB ++ _).length + msum (fun _ => 10) m.funcs + 60 ≤ _
    simp only [encPre, E.app_b, List.length_append, List.length_nil, lmag]; unfold big; omega) hw.funcs) (fun W8 F8 st8 m8 g8 => ⟨rfl, ?_⟩)
  have hr8 := hr7.step m8 g8
  replace st8 : OutSt W4 ⟨b9, 0, none⟩ (fun k => k = b9 ∨ k = b6) magicB false (E.app _ (secE 3 512 numE m.funcs)) W8 F8 := st8
  refine ⟨S.tables, hr8.sub _ _ (hc 3 _ rfl), ?_⟩
  refine st8.step ent_encode_section_Limits (bs' := (secE 4 512 tableE m.tables).b) (ok := (secE 4 512 tableE m.tables).ok) (section_Limits_spec (wt := (fun _ => 60)) ent_encode_Encode_4 hmono.tables (tables_RT ht') st8.out hr8 (by
    change (magicB ++ _).length + msum (fun _ => 60) m.tables + 60 ≤ _
    simp only [encPre, E.app_b, List.length_append, List.length_nil, lmag]; unfold big; omega) hw.tables) (fun W9 F9 st9 m9 g9 => ⟨rfl, ?_⟩)
  have hr9 := hr8.step m9 g9
  replace st9 : OutSt W4 ⟨b9, 0, none⟩ (fun k => k = b9 ∨ k = b6) magicB false (E.app _ (secE 4 512 tableE m.tables)) W9 F9 := st9
  refine ⟨S.mems, hr9.sub _ _ (hc 4 _ rfl), ?_⟩
  refine st9.step ent_encode_section_Limits (bs' := (secE 5 512 memE m.mems).b) (ok := (secE 5 512 memE m.mems).ok) (section_Limits_spec (wt := (fun _ => 60)) ent_encode_Encode_5 hmono.mems (mems_RT ht') st9.out hr9 (by
    change (magicB ++ _).length + msum (fun _ => 60) m.mems + 60 ≤ _
    simp only [encPre, E.app_b, List.length_append, List.length_nil, lmag]; unfold big; omega) hw.mems) (fun W10 F10 st10 m10 g10 => ⟨rfl, ?_⟩)
  have hr10 := hr9.step m10 g10
  replace st10 : OutSt W4 ⟨b9, 0, none⟩ (fun k => k = b9 ∨ k = b6) magicB false (E.app _ (secE 5 512 memE m.mems)) W10 F10 := st10
  refine ⟨S.globals, hr10.sub _ _ (hc 5 _ rfl), ?_⟩
  refine st10.step ent_encode_section_Global (bs' := (secE 6 512 globalE m.globals).b) (ok := (secE 6 512 globalE m.globals).ok) (section_Global_spec (wt := globalW) ent_encode_global hmono.globals (globals_RT ht') st10.out hr10 (by
    change (magicB ++ _).length + msum globalW m.globals + 60 ≤ _
    simp only [encPre, E.app_b, List.length_append, List.length_nil, lmag]; unfold big; omega) hw.globals) (fun W11 F11 st11 m11 g11 => ⟨rfl, ?_⟩)
  have hr11 := hr10.step m11 g11
  replace st11 : OutSt W4 ⟨b9, 0, none⟩ (fun k => k = b9 ∨ k = b6) magicB false (E.app _ (secE 6 512 globalE m.globals)) W11 F11 := st11
  refine ⟨S.exports, hr11.sub _ _ (hc 6 _ rfl), ?_⟩
  refine st11.step ent_encode_section_Export (bs' := (secE 7 512 exportE m.exports).b) (ok := (secE 7 512 exportE m.exports).ok) (section_Export_spec (wt := exportW) ent_encode_Encode_6 hmono.exports (exports_RT ht') st11.out hr11 (by
    change (magicB ++ _).length + msum exportW m.exports + 60 ≤ _
    simp only [encPre, E.app_b, List.length_append, List.length_nil, lmag]; unfold big; omega) hw.exports) (fun W12 F12 st12 m12 g12 => ⟨rfl, ?_⟩)
  have hr12 := hr11.step m12 g12
  replace st12 : OutSt W4 ⟨b9, 0, none⟩ (fun k => k = b9 ∨ k = b6) magicB false (E.app _ (secE 7 512 exportE m.exports)) W12 F12 := st12
  refine ⟨m.start, hr12.sub _ _ (hc 7 _ rfl), ?_⟩
  refine st12.must (ok := decide (m.start ≥ -1)) (fun W13 F13 st13 m13 g13 => ⟨rfl, ?_⟩)
  have hr13 := hr12.step m13 g13
  intro J hJ
  have fin : ∀ (W14 : World) (F14 : Nat → Prop), Rds r' W14 F14 → OutSt W4 ⟨b9, 0, none⟩ (fun k => k = b9 ∨ k = b6) magicB false (E.app (encPre m) (startE m.start)) W14 F14 → J W14 := by
    intro W14 F14 hr14 st14
    refine hJ _ ?_
    refine ⟨S.elems, hr14.sub _ _ (hc 8 _ rfl), ?_⟩
    refine st14.step ent_encode_section_Elem (bs' := (secE 9 512 elemE m.elems).b) (ok := (secE 9 512 elemE m.elems).ok) (section_Elem_spec (wt := elemW) ent_encode_Encode_7 hmono.elems (elems_RT ht') st14.out hr14 (by
      change (magicB ++ _).length + msum elemW m.elems + 60 ≤ _
      simp only [encPre, E.app_b, List.length_append, List.length_nil, lmag]; unfold big; omega) hw.elems) (fun W15 F15 st15 m15 g15 => ⟨rfl, ?_⟩)
    have hr15 := hr14.step m15 g15
    replace st15 : OutSt W4 ⟨b9, 0, none⟩ (fun k => k = b9 ∨ k = b6) magicB false (E.app _ (secE 9 512 elemE m.elems)) W15 F15 := st15
    refine ⟨S.codes, hr15.sub _ _ (hc 9 _ rfl), ?_⟩
    refine st15.step ent_encode_section_Code (bs' := (secE 10 512 codeE m.codes).b) (ok := (secE 10 512 codeE m.codes).ok) (section_Code_spec (wt := fcodeW) ent_encode_code hmono.codes (codes_RT ht') st15.out hr15 (by
      change (magicB ++ _).length + msum fcodeW m.codes + 60 ≤ _
      simp only [encPre, E.app_b, List.length_append, List.length_nil, lmag]; unfold big; omega) hw.codes) (fun W16 F16 st16 m16 g16 => ⟨rfl, ?_⟩)
    have hr16 := hr15.step m16 g16
    replace st16 : OutSt W4 ⟨b9, 0, none⟩ (fun k => k = b9 ∨ k = b6) magicB false (E.app _ (secE 10 512 codeE m.codes)) W16 F16 := st16
    refine ⟨S.datas, hr16.sub _ _ (hc 10 _ rfl), ?_⟩
    refine st16.step ent_encode_section_Data (bs' := (secE 11 512 dataE m.datas).b) (ok := (secE 11 512 dataE m.datas).ok) (section_Data_spec (wt := dataW) ent_encode_Encode_8 hmono.datas (datas_RT ht') st16.out hr16 (by
      change (magicB ++ _).length + msum dataW m.datas + 60 ≤ _
      simp only [encPre, E.app_b, List.length_append, List.length_nil, lmag]; unfold big; omega) hw.datas) (fun W17 F17 st17 m17 g17 => ⟨rfl, ?_⟩)
    have hr17 := hr16.step m17 g17
    replace st17 : OutSt W4 ⟨b9, 0, none⟩ (fun k => k = b9 ∨ k = b6) magicB false (E.app _ (secE 11 512 dataE m.datas)) W17 F17 := st17
    have hmod : Mod NoB W W17 := hm04.trans st17.mod (fun i hi h => by have := hm1.size; rcases h with h | h <;> omega)
    obtain ⟨so, d0, d1, _, do0, _⟩ := st17.out.open
    refine ⟨_, rfl, _, d1, ?_⟩
    replace d1 : W17.cell? ((⟨b9, 0, none⟩ : Addr).add 1) = some (.bool (false || !(encE m).ok)) := d1
    replace do0 : Own W17 ty_uint8 1 so (bv (magicB ++ (encE m).b)) := do0
    have hlen : so.len = (magicB ++ (encE m).b).length := by have := do0.1; simpa using this.symm
    refine Br.mk (fun hb => ?_) (fun hb => ?_)
    · have h1 : encR m = 1 := by
        replace hb : (false || !(encE m).ok) = true := hb
        have : (encE m).ok = false := by simpa using hb
        unfold encR; rw [this]; rfl
      exact ⟨⟨none, 0, 0⟩, by rw [h1], hmod⟩
    · replace hb : (false || !(encE m).ok) = false := hb
      have hok : (encE m).ok = true := by simpa using hb
      refine ⟨_, rfl, so, d0, ?_⟩
      rw [hlen]
      refine Br.dec (fun hgt => ?_) (fun hle' => ⟨_, rfl, so, d0, ?_⟩)
      · have h1 : encR m = 4 := by unfold encR; rw [hok, if_pos rfl, if_pos hgt]
        exact ⟨⟨none, 0, 0⟩, by rw [h1], hmod⟩
      · have h1 : encR m = 0 := by unfold encR; rw [hok, if_pos rfl, if_neg hle']
        exact ⟨so, by rw [h1], hmod⟩
  have hnum := numE_len m.start
  refine ⟨m.start, hr13.sub _ _ (hc 7 _ rfl), Br.dec (fun hge => ?_) (fun hlt => ?_)⟩
  · refine Na.mk fun b56 Wa hba hma hsa hca => ?_
    have hra := hr13.mod0 hma
    have sta := st13.mod0 hma
    have pst := OutSt.start (OutAt.new hca)
    refine ⟨m.start, hra.sub _ _ (hc 7 _ rfl), ?_⟩
    refine pst.num (by simp [E.nil]; unfold big; omega) (fun Wb Gb pstb mb gb => ⟨rfl, ?_⟩)
    have hmab : Mod NoB W13 Wb := hma.trans pstb.mod (fun i hi e => by omega)
    have stb := st13.mod0 hmab
    have hrb := hr13.mod0 hmab
    have hdis : ∀ k, Gb k → ¬ F13 k := fun k hG hF => by
      have := st13.out.lt hF
      rcases pstb.grows k hG with h | h <;> omega
    obtain ⟨sp, hp⟩ := pstb.out.read hdis
    replace hp : OutR (offS Wb F13) ⟨b56, 0, none⟩ sp (numE m.start).b (!(numE m.start).ok) := hp
    have hst : startE m.start = putE 8 (numE m.start).b (!(numE m.start).ok) := by unfold startE; rw [if_pos hge]
    refine stb.step ent_encode_out_put (bs' := (startE m.start).b) (ok := (startE m.start).ok) (hst ▸ put_spec stb.out (Rds.all Wb F13) hp 8 (by
      change (magicB ++ _).length + _ + 11 ≤ _
      simp only [E.app_b, List.length_append, List.length_nil, lmag]; unfold big; omega)) (fun Wc Fc stc mc gc => ⟨rfl, fin Wc Fc (hrb.step mc gc) stc⟩)
  · have hst : startE m.start = E.nil := by unfold startE; rw [if_neg hlt]
    refine fin W13 F13 hr13 ?_
    rw [hst, E.app_nil]
    exact st13
end Go.Proofs.YtacjnpahlbibhaaDoor
end

/- ValidGrows: the run. (mkGrH.py printed this) -/
import Derived.Test.YtacjnpahlbibhaaDoorGrG
set_option linter.unusedVariables false
set_option linter.unusedSimpArgs false
set_option maxRecDepth 100000
namespace Go.Proofs.YtacjnpahlbibhaaDoor
open Go Go.RowKit

theorem setM_types (S : MSl) (m : Module) (s : Sl) : setL (ModC S m) 0 [s.v] = ModC { S with types := s } m := rfl
theorem setM_globals (S : MSl) (m : Module) (s : Sl) : setL (ModC S m) 5 [s.v] = ModC { S with globals := s } m := rfl
theorem setM_codes (S : MSl) (m : Module) (s : Sl) : setL (ModC S m) 9 [s.v] = ModC { S with codes := s } m := rfl
set_option maxHeartbeats 4000000 in
theorem grows_spec {W : World} {r : Rd} (hr : Sub r W) {S : MSl} {m : Module} (h : ModAt r S m) (htight : Tight m) (f : Int) :
    Calls Tryd.prog f_plaitlaw15_ValidGrows #[ModV S m, .int .i64 f] W fun e W' => e = .returned (.bool true) ∧ Mod NoB W W' := by
  have hm := h.rd
  have hw := h.room
  refine of_plaitlaw15_ValidGrows _ _ _ _ _ _ _ _ _ _ _ _ _ _ ?_
  unfold V_plaitlaw15_ValidGrows
  refine Na.mk fun b2 W1 hb2 hm1 hz1 hc1 => ?_
  replace hc1 : W1.heap[b2]? = some (.cells (ModC S m) 32 (0, 0)) := hc1
  refine CallV.mk ent_plaitlaw15_awake (awake_spec (hr.mod0 hm1) h.tabs) ?_
  rintro e W2 ⟨rfl, hm2⟩
  have m02 := hm1.trans0 hm2
  have c22 := hm2.heap hc1 (fun h => h)
  refine ⟨_, rfl, true, rfl, Br.mk (fun h => by simp at h) (fun _ => ?_)⟩
  refine ⟨_, mod_cells (c22) rfl, _, mod_cells (c22) rfl, _, mod_cells (c22) rfl, _, mod_cells (c22) rfl, _, mod_cells (c22) rfl, _, mod_cells (c22) rfl, _, mod_cells (c22) rfl, _, mod_cells (c22) rfl, _, mod_cells (c22) rfl, _, mod_cells (c22) rfl, _, mod_cells (c22) rfl, ?_⟩
  have A2 : ModAt W2.cell? S m := ⟨h.tabs.mono (fun p v hp => m02.cell (hr p v hp) (fun h => h)), ModR.mono (fun p v hp => m02.cell (hr p v hp) (fun h => h)) hm, hw, h.small⟩
  refine CallV.mk ent_valid_Check (Check_spec (S := S) (m := m) (Sub.self W2) A2) ?_
  rintro e W3 ⟨rfl, hm3⟩
  have m03 := m02.trans0 hm3
  have c23 := hm3.heap c22 (fun h => h)
  refine ⟨_, rfl, checkM m, rfl, S.types, fun _ => mod_cells c23 rfl, S.globals, fun _ => mod_cells c23 rfl, S.codes, fun _ => mod_cells c23 rfl, Br.mk (fun _ => ⟨rfl, m03⟩) (fun hb => ?_)⟩
  simp only [Bool.or_eq_false_iff, bne_eq_false_iff_eq, decide_eq_false_iff_not, beq_eq_false_iff_ne, ne_eq] at hb
  obtain ⟨⟨⟨hchk, ht0⟩, hg0⟩, hc0⟩ := hb
  have ht : m.types.length < 256 := by have := hm.types.1; omega
  have hg : m.globals.length < 512 := by have := hm.globals.1; omega
  have hcl := hm.codes.1
  have hcn : m.codes.length ≠ 0 := by omega
  obtain ⟨he, ho, hty⟩ := check_parts hchk
  have hc512 : m.codes.length ≤ 512 := by
    have eo : (encE m).ok = true := by
      unfold encR at he
      split at he
      · assumption
      · omega
    simp only [encE, encPre, E.app_ok, Bool.and_eq_true] at eo
    have := (secE_ok' eo.1.2).1
    omega
  refine ⟨_, mod_cells (c23) rfl, _, mod_cells (c23) rfl, _, mod_cells (c23) rfl, _, mod_cells (c23) rfl, _, mod_cells (c23) rfl, _, mod_cells (c23) rfl, _, mod_cells (c23) rfl, _, mod_cells (c23) rfl, _, mod_cells (c23) rfl, _, mod_cells (c23) rfl, _, mod_cells (c23) rfl, ?_⟩
  refine Na.mk fun b6 W4 hb6 hm4 hz4 hc4 => ?_
  have lt6 := heap_lt hc4
  refine stC_at (b := b6) (o := 0) rfl hc4 (by simp) (by simp [Value.oneCell', Sl.v]) (fun W5 c65 m5 z5 => ?_)
  rw [setL_all (by simp)] at c65
  replace c65 : W5.heap[b6]? = some (.cells (ModC S m) 32 (0, 0)) := c65
  have m35 : Mod NoB W3 W5 := hm4.trans m5 (fun i hi e => by have e : i = b6 := e; omega)
  have m05 := m03.trans0 m35
  have c25 := m35.heap c23 (fun h => h)
  have lt25 := heap_lt c23
  have z03 := m03.size
  have ne26 : b6 ≠ b2 := by omega
  have hb6W : W.heap.size ≤ b6 := by omega
  have lt65 := heap_lt c65
  have szm (A B : World) (x : Mod NoB A B) : A.heap.size ≤ B.heap.size := x.size
  refine app_types (b6 := b6) (r := r) c25 (hr.mod0 m05) hm (by omega) (fun sT b40 vsT W10 cT nT hb40 h40 => ?_)
  have z10 := nT.mod.size
  have nT6 : ∀ b, sT.isB b → b ≠ b6 := fun b y => by have := nT.fresh b y; omega
  refine stC_at (b := b6) (o := 0) (by rw [add_mk]) (nT.mod.heap c65 (fun h => h)) (by simp) (by simp [Value.oneCell', Sl.v]) (fun W11 c611 m11 z11 => ?_)
  rw [setM_types] at c611
  have m011 : Mod NoB W W11 := (m05.trans0 nT.mod).trans m11 (fun i hi e => by have e : i = b6 := e; omega)
  have c211 : W11.heap[b2]? = some (.cells (ModC S m) 32 (0, 0)) := m11.heap (nT.mod.heap c25 (fun h => h)) (fun e => ne26 (Eq.symm e))
  have oT11 := nT.own.mod m11 (fun b y e => nT6 b y e)
  have h4011 : W11.heap[b40]? = some (.cells #[.int .i64 123] 3 (0, 0)) := m11.heap h40 (fun e => by have e : b40 = b6 := e; omega)
  refine app_globals (b6 := b6) (r := r) c211 (hr.mod0 m011) hm (by omega) (fun sG b51 vsG W16 cG nG hb51 h51 => ?_)
  have nG6 : ∀ b, sG.isB b → b ≠ b6 := fun b y => by have := nG.fresh b y; omega
  refine stC_at (b := b6) (o := 5) (by rw [add_mk]) (nG.mod.heap c611 (fun h => h)) (by simp) (by simp [Value.oneCell', Sl.v]) (fun W17 c617 m17 z17 => ?_)
  rw [setM_globals] at c617
  have z16 := nG.mod.size
  have m1117 : Mod (fun k => k = b6) W11 W17 := (Mod.of0 nG.mod).transS m17
  have m017 : Mod NoB W W17 := m011.trans m1117 (fun i hi e => by have e : i = b6 := e; omega)
  have c217 : W17.heap[b2]? = some (.cells (ModC S m) 32 (0, 0)) := m1117.heap c211 (fun e => ne26 (Eq.symm e))
  have oT17 := oT11.mod m1117 (fun b y e => nT6 b y e)
  have oG17 := nG.own.mod m17 (fun b y e => nG6 b y e)
  have h4017 : W17.heap[b40]? = some (.cells #[.int .i64 123] 3 (0, 0)) := m1117.heap h4011 (fun e => by have e : b40 = b6 := e; omega)
  have h5117 := m17.heap h51 (fun e => by have e : b51 = b6 := e; omega)
  -- all that stands now but the block at hand
  obtain ⟨X, hX⟩ : ∃ X : Nat → Prop, X = fun b => b = b6 ∨ W17.heap.size ≤ b := ⟨_, rfl⟩
  have hl17 : Le r (offS W17 X) := fun p v hp => by
    have hlt := lt_of_cell (hr p v hp)
    refine offS_of (m017.cell (hr p v hp) (fun h => h)) ?_
    rw [hX]
    have := m017.size
    omega
  have nX : ∀ b, b < W17.heap.size → b ≠ b6 → ¬ X b := fun b h1 h2 => by rw [hX]; omega
  have rT : SlOf 2 SigR (offS W17 X) sT (m.types ++ [sNew]) := types_back oT17 cT hl17 (fun b y => nX b (oT17.lt y) (nT6 b y)) h4017 (nX _ (heap_lt h4017) (by omega))
  have rG : SlOf 3 GlobalR (offS W17 X) sG (m.globals ++ [gNew]) := globals_back oG17 cG hl17 (fun b y => nX b (oG17.lt y) (nG6 b y)) h5117 (nX _ (heap_lt h5117) (by omega))
  have rM : ModR (offS W17 X) S m := ModR.mono hl17 hm
  -- the module at a later time, with the codes at hand
  have later : ∀ {Wx : World} {C : Sl} {i : Nat} {c : Code}, Mod X W17 Wx → SlOf 2 FCodeR Wx.cell? C (m.codes.set i c) → fcodeW c ≤ 120000000 → codeW c.body ≤ 1073741824 →
      ModAt Wx.cell? { S with types := sT, globals := sG, codes := C } (grown m i c) := by
    intro Wx C i c hx hC w1 w2
    have sub : Sub (offS W17 X) Wx := (offS_sub W17 X).mod hx (offS_off W17 X)
    have le : Le (offS W17 X) Wx.cell? := sub
    have le0 : Le r Wx.cell? := fun p v hp => sub p v (hl17 p v hp)
    exact ⟨h.tabs.mono le0, grown_read (ModR.mono le rM) (SlOf.mono (fun r r' q x hl hx => hx.move hl (fun j _ v hv => hl _ _ hv)) le rT) (SlOf.mono (fun r r' q x hl hx => hx.move hl (fun j _ v hv => hl _ _ hv)) le rG) hC, grown_room htight hw ht hg w1, grown_small h.small w2⟩
  refine ⟨S.codes, mod_cells c217 rfl, ?_⟩
  obtain ⟨i, hi, hI⟩ := index_of (f := f) (n := S.codes.len) (by omega) (by omega)
  refine ⟨by rw [wrap_u64]; omega, ?_⟩
  simp only [hI]
  have hil : i < m.codes.length := by omega
  refine ⟨_, mod_cells (c617) rfl, _, mod_cells (c617) rfl, _, mod_cells (c617) rfl, _, mod_cells (c617) rfl, _, mod_cells (c617) rfl, _, mod_cells (c617) rfl, _, mod_cells (c617) rfl, _, mod_cells (c617) rfl, _, mod_cells (c617) rfl, _, mod_cells (c617) rfl, _, mod_cells (c617) rfl, ?_⟩
  refine Na.mk fun b7 W18 hb7 hm18 hz18 hc18 => ?_
  have lt7 := heap_lt hc18
  refine stC_at (b := b7) (o := 0) rfl hc18 (by simp) (by simp [Value.oneCell', Sl.v]) (fun W19 c719 m19 z19 => ?_)
  rw [setL_all (by simp)] at c719
  replace c719 : W19.heap[b7]? = some (.cells (ModC { S with types := sT, globals := sG } m) 32 (0, 0)) := c719
  have m1719 : Mod NoB W17 W19 := hm18.trans m19 (fun i hi e => by have e : i = b7 := e; omega)
  have m019 := m017.trans0 m1719
  have c219 := m1719.heap c217 (fun h => h)
  have c619 := m1719.heap c617 (fun h => h)
  have lt617 := heap_lt c617
  have lt217 := heap_lt c217
  refine app_codes (b6 := b7) (r := r) c219 (hr.mod0 m019) hm (by omega) (fun sL vsL W21 cL nL => ?_)
  have nL7 : ∀ b, sL.isB b → b ≠ b7 := fun b y => by have := nL.fresh b y; have := heap_lt c719; omega
  refine stC_at (b := b7) (o := 9) (by rw [add_mk]) (nL.mod.heap c719 (fun h => h)) (by simp) (by simp [Value.oneCell', Sl.v]) (fun W22 c722 m22 z22 => ?_)
  rw [setM_codes] at c722
  have m1722 : Mod NoB W17 W22 := (m1719.trans0 nL.mod).trans m22 (fun i hi e => by have e : i = b7 := e; omega)
  have oL22 := nL.own.mod m22 (fun b y e => nL7 b y e)
  refine Dw.mk fun W23 hm23 hh23 => ?_
  have m1723 := m1722.trans0 hm23
  have m023 := m017.trans0 m1723
  have c723 := hm23.heap c722 (fun h => h)
  have c223 := m1723.heap c217 (fun h => h)
  have oL23 := oL22.mod0 hm23
  have hr23 : Sub r W23 := hr.mod0 m023
  have rC23 : SlOf 2 FCodeR r S.codes m.codes := hm.codes
  obtain ⟨qC, hqC, bs0, bs1, hbc0, hbc1, hbl, hbb⟩ := rC23.get hil
  have lt723 := heap_lt c723
  have lt223 := heap_lt c223
  obtain ⟨qL, hqL, cqL⟩ := oL23.cell (i := i * 2 + 1) (v := vsL[i * 2 + 1]'(by rw [cL.1]; exact idx_lt hil (by omega))) (List.getElem?_eq_getElem _)
  have hLl : sL.len = m.codes.length := by have := oL23.1; rw [cL.1] at this; omega
  refine ⟨fun w => Mod NoB W23 w, Mod.refl _ _, sL, fun w hw => mod_cells (hw.heap c723 (fun h => h)) rfl, S.codes, fun w hw => mod_cells (hw.heap c223 (fun h => h)) rfl, qC, ⟨hqC, by omega, by omega⟩, bs1, fun w hw => hw.cell (hr23 _ _ hbc1) (fun h => h), ?_⟩
  refine Na.mk fun b75 W24 hb75 hm24 hz24 hc24 => ?_
  refine ⟨hm24, ?_⟩
  refine app_body (W := W23) (r := r) (x1 := iGet 1048576) (x2 := iDrop) (l := m.codes[i].body) (hr23.mod0 hm24) hb75 hm24 hc24 hbb (by have := body_le htight hil; have := codeW_len60 m.codes[i].body; omega) (fun sB vsB W25 cB nB => ?_)
  refine ⟨sB, rfl, nB.mod, qL, ⟨hqL, by omega, by omega⟩, ?_⟩
  rw [add_add]
  refine (oL23.mod0 nB.mod).set hqL (by rw [cL.1]; exact idx_lt hil (by omega)) rfl (fun W26 oL26 m26 z26 => ?_)
  have szz := m1723.size
  have fL : ∀ b, sL.isB b → W17.heap.size ≤ b := fun b y => by have := nL.fresh b y; have := m1719.size; omega
  have m1726 : Mod NoB W17 W26 := (m1723.trans0 nB.mod).trans m26 (fun k hk y => by have := fL k y; omega)
  have m026 := m017.trans0 m1726
  have c726 := m26.heap (nB.mod.heap c723 (fun h => h)) (fun y => nL7 _ y rfl)
  have oB26 := nB.own.mod m26 (fun b y z => by have := nB.fresh b y; have := oL23.lt z; omega)
  have room1 := pre_room htight hil (iGet 1048576) iDrop rfl rfl
  have A26 : ModAt W26.cell? { S with types := sT, globals := sG, codes := sL } (grown m i (preC (iGet 1048576) iDrop m.codes[i])) :=
    later (Mod.of0 m1726) (back_codes (hr.mod0 m026) hil oL26 cL (back_body (hr.mod0 m026) oB26 cB ⟨rfl, by simp [iGet], by simp [iGet]⟩ ⟨rfl, by simp [iDrop], by simp [iDrop]⟩)) room1.1 room1.2
  refine ⟨_, mod_cells (c726) rfl, _, mod_cells (c726) rfl, _, mod_cells (c726) rfl, _, mod_cells (c726) rfl, _, mod_cells (c726) rfl, _, mod_cells (c726) rfl, _, mod_cells (c726) rfl, _, mod_cells (c726) rfl, _, mod_cells (c726) rfl, _, mod_cells (c726) rfl, _, mod_cells (c726) rfl, ?_⟩
  refine CallV.mk ent_valid_Check (Check_spec (S := { S with types := sT, globals := sG, codes := sL }) (m := grown m i (preC (iGet 1048576) iDrop m.codes[i])) (Sub.self W26) A26) ?_
  rintro e W27 ⟨rfl, hm27⟩
  have m027 := m026.trans0 hm27
  have m1727 := m1726.trans0 hm27
  refine ⟨_, rfl, _, rfl, Br.eq (fun _ => ⟨trivial, m027⟩) (fun hne4 => ?_)⟩
  obtain ⟨k, hk⟩ : ∃ k : Nat, k = (sigOf m ((m.imports.length + i : Nat) : Int)).1.ins.length + m.codes[i].locals.length := ⟨_, rfl⟩
  obtain ⟨law1, law2, law3⟩ := grow_law hchk h.small ht hg hil hk hne4
  have c627 := m1727.heap c617 (fun h => h)
  have c227 := m1727.heap c217 (fun h => h)
  have A27 : ModAt W27.cell? { S with types := sT, globals := sG, codes := S.codes } (grown m i m.codes[i]) := by
    have hb := body_le htight hil
    refine later (Mod.of0 m1727) ?_ (by unfold fcodeW; omega) (by omega)
    rw [List.set_getElem_self]
    exact SlOf.mono (fun r r' q x hl hx => hx.move hl (fun j _ v hv => hl _ _ hv)) (fun p v hp => m027.cell (hr p v hp) (fun h => h)) hm.codes
  refine ⟨_, mod_cells (c627) rfl, _, mod_cells (c627) rfl, _, mod_cells (c627) rfl, _, mod_cells (c627) rfl, _, mod_cells (c627) rfl, _, mod_cells (c627) rfl, _, mod_cells (c627) rfl, _, mod_cells (c627) rfl, _, mod_cells (c627) rfl, _, mod_cells (c627) rfl, _, mod_cells (c627) rfl, ?_⟩
  refine CallV.mk ent_valid_Check (Check_spec (S := { S with types := sT, globals := sG, codes := S.codes }) (m := grown m i m.codes[i]) (Sub.self W27) A27) ?_
  rw [law1]
  rintro e W28 ⟨rfl, hm28⟩
  refine ⟨_, rfl, 0, rfl, Br.mk (fun h => by simp at h) (fun _ => ?_)⟩
  have m028 := m027.trans0 hm28
  have m1728 := m1727.trans0 hm28
  have c228 := hm28.heap c227 (fun h => h)
  have c628 := hm28.heap c627 (fun h => h)
  have A28 : ModR W28.cell? S m := ModR.mono (fun p v hp => m028.cell (hr p v hp) (fun h => h)) hm
  refine ⟨_, mod_cells (c228) rfl, _, mod_cells (c228) rfl, _, mod_cells (c228) rfl, _, mod_cells (c228) rfl, _, mod_cells (c228) rfl, _, mod_cells (c228) rfl, _, mod_cells (c228) rfl, _, mod_cells (c228) rfl, _, mod_cells (c228) rfl, _, mod_cells (c228) rfl, _, mod_cells (c228) rfl, S.imports, mod_cells c228 rfl, ?_⟩
  have himp := hm.imports.1
  have hwi := hw.imports
  have eS : IntKind.wrap .i64 ((S.imports.len : Int) + (i : Int)) = ((m.imports.length + i : Nat) : Int) := by rw [himp, wrap_id (by omega) (by omega)]; omega
  rw [eS]
  refine CallV.mk ent_valid_Sig (Sig_spec (S := S) (m := m) (Sub.self W28) A28 ((m.imports.length + i : Nat) : Int) (by omega) A28.tlen) ?_
  rintro e W29 ⟨t0, t1, rfl, n0, n1, hd⟩
  refine ⟨_, rfl, t0, t1, _, rfl, ?_⟩
  refine Na.mk fun b8 W30 hb8 hm30 hz30 hc30 => ?_
  have lt8 := heap_lt hc30
  refine stC_at (b := b8) (o := 0) rfl hc30 (by simp) (by simp [Value.oneCell', Sl.v]) (fun W31 c831 m31 z31 => ?_)
  rw [setL_all (by simp)] at c831
  have m2931 : Mod NoB W29 W31 := hm30.trans m31 (fun i hi e => by have e : i = b8 := e; omega)
  refine Dw.mk fun W32 hm32 hh32 => ?_
  have m1732 := ((m1728.trans0 n0.mod).trans0 m2931).trans0 hm32
  have m032 := m017.trans0 m1732
  have c832 := hm32.heap c831 (fun h => h)
  have c232 := m1732.heap c217 (fun h => h)
  have c632 := m1732.heap c617 (fun h => h)
  have hr32 : Sub r W32 := hr.mod0 m032
  refine ⟨fun w => Mod NoB W32 w, Mod.refl _ _, t0, fun w hw => hw.cell (by rw [add_mk]; exact cell_of_heap c832 rfl) (fun h => h), S.codes, fun w hw => mod_cells (hw.heap c232 (fun h => h)) rfl, qC, ⟨hqC, by omega, by omega⟩, bs0, fun w hw => hw.cell (hr32 _ _ hbc0) (fun h => h), ?_⟩
  have lt0 : t0.len = (sigOf m ((m.imports.length + i : Nat) : Int)).1.ins.length := by have := n0.own.1; simpa using this.symm
  have lbs := hbl.1
  have hkl := kindOf_len (encOk_of he).ty (kidx m ((m.imports.length + i : Nat) : Int))
  have hkl1 : (sigOf m ((m.imports.length + i : Nat) : Int)).1.ins.length ≤ 32 := hkl.1
  have hbody := body_le htight hil
  have ek : IntKind.wrap .i64 ((t0.len : Int) + (bs0.len : Int)) = (k : Int) := by rw [lt0, lbs, wrap_id (by omega) (by omega), hk]; omega
  refine Na.mk fun b10 W33 hb10 hm33 hz33 hc33 => ?_
  refine ⟨hm33, ?_⟩
  rw [ek]
  have lt10 := heap_lt hc33
  refine stC_at (b := b10) (o := 0) rfl hc33 (by simp) (by simp [Value.oneCell', Sl.v]) (fun W34 c1034 m34 z34 => ?_)
  rw [setL_all (by simp)] at c1034
  have m3234 : Mod NoB W32 W34 := hm33.trans m34 (fun i hi e => by have e : i = b10 := e; omega)
  have m1734 := m1732.trans0 m3234
  have m034 := m017.trans0 m1734
  have c234 := m1734.heap c217 (fun h => h)
  have c634 := m1734.heap c617 (fun h => h)
  have s1734 := m1734.size
  have s1732 := m1732.size
  refine app_codes (b6 := b6) (r := r) c234 (hr.mod0 m034) hm (by omega) (fun sC vsC W36 cC nC => ?_)
  have fC : ∀ b, sC.isB b → W17.heap.size ≤ b ∧ b ≠ b6 := fun b y => by have := nC.fresh b y; omega
  refine stC_at (b := b6) (o := 9) (by rw [add_mk]) (nC.mod.heap c634 (fun h => h)) (by simp) (by simp [Value.oneCell', Sl.v]) (fun W37 c637 m37 z37 => ?_)
  rw [setM_codes] at c637
  have x1737 : Mod X W17 W37 := (Mod.of0 (m1734.trans0 nC.mod)).trans m37 (fun i hi e => by have e : i = b6 := e; rw [hX]; exact .inl e)
  have m037 : Mod NoB W W37 := (m034.trans0 nC.mod).trans m37 (fun i hi e => by have e : i = b6 := e; omega)
  have oC37 := nC.own.mod m37 (fun b y e => (fC b y).2 e)
  have s36 := nC.mod.size
  have c1037 : W37.heap[b10]? = some (.cells (insC (iGet k)).toArray 40 (0, 0)) := m37.heap (nC.mod.heap c1034 (fun h => h)) (fun e => by have e : b10 = b6 := e; omega)
  have c237 : W37.heap[b2]? = some (.cells (ModC S m) 32 (0, 0)) := m37.heap (nC.mod.heap c234 (fun h => h)) (fun e => ne26 (Eq.symm e))
  refine Dw.mk fun W38 hm38 hh38 => ?_
  have x1738 := x1737.trans0 hm38
  have m038 := m037.trans0 hm38
  have c638 := hm38.heap c637 (fun h => h)
  have c1038 := hm38.heap c1037 (fun h => h)
  have c238 := hm38.heap c237 (fun h => h)
  have oC38 := oC37.mod0 hm38
  have hr38 : Sub r W38 := hr.mod0 m038
  have s38 := hm38.size
  obtain ⟨qN, hqN, cqN⟩ := oC38.cell (i := i * 2 + 1) (v := vsC[i * 2 + 1]'(by rw [cC.1]; exact idx_lt hil (by omega))) (List.getElem?_eq_getElem _)
  have hCl : sC.len = m.codes.length := by have := oC38.1; rw [cC.1] at this; omega
  have rd10 : ∀ {j : Nat} {v : Value}, (insC (iGet k))[j]? = some v → ∀ w, Mod NoB W38 w → w.cell? ((⟨b10, 0, none⟩ : Addr).add j) = some v := fun hj w hw => hw.cell (by rw [add_mk]; refine cell_of_heap c1038 ?_; rw [Nat.zero_add]; simpa using hj) (fun h => h)
  refine ⟨fun w => Mod NoB W38 w, Mod.refl _ _, sC, fun w hw => mod_cells (hw.heap c638 (fun h => h)) rfl, 32, rd10 rfl, (k : Int), rd10 rfl, 0, rd10 rfl, 0, rd10 rfl, 0, rd10 rfl, ⟨none, 0, 0⟩, rd10 rfl, S.codes, fun w hw => mod_cells (hw.heap c238 (fun h => h)) rfl, qC, ⟨hqC, by omega, by omega⟩, bs1, fun w hw => hw.cell (hr38 _ _ hbc1) (fun h => h), ?_⟩
  refine Na.mk fun b123 W39 hb123 hm39 hz39 hc39 => ?_
  refine ⟨hm39, ?_⟩
  refine app_body (W := W38) (r := r) (x1 := iGet k) (x2 := iDrop) (l := m.codes[i].body) (hr38.mod0 hm39) hb123 hm39 hc39 hbb (by have := codeW_len60 m.codes[i].body; omega) (fun sD vsD W40 cD nD => ?_)
  refine ⟨sD, rfl, nD.mod, qN, ⟨hqN, by omega, by omega⟩, ?_⟩
  rw [add_add]
  refine (oC38.mod0 nD.mod).set hqN (by rw [cC.1]; exact idx_lt hil (by omega)) rfl (fun W41 oC41 m41 z41 => ?_)
  have x1740 := x1738.trans0 nD.mod
  have x1741 : Mod X W17 W41 := x1740.trans m41 (fun b hb y => by rw [hX]; exact .inr (fC b y).1)
  have m041 : Mod NoB W W41 := (m038.trans0 nD.mod).trans m41 (fun b hb y => by have := (fC b y).1; have := m017.size; omega)
  have oD41 := nD.own.mod m41 (fun b y z => by have := nD.fresh b y; have := oC38.lt z; omega)
  have c641 : W41.heap[b6]? = some (.cells (ModC { S with types := sT, globals := sG, codes := sC } m) 32 (0, 0)) := m41.heap (nD.mod.heap c638 (fun h => h)) (fun y => (fC _ y).2 rfl)
  have hk2 : (k : Int) < 9223372036854775808 := by rw [hk]; omega
  have bareK : InsBare (iGet (k : Int)) := ⟨rfl, by show -9223372036854775808 ≤ (k : Int); omega, hk2⟩
  have bareD : InsBare iDrop := ⟨rfl, by simp [iDrop], by simp [iDrop]⟩
  have bareZ : InsBare iZero := ⟨rfl, by simp [iZero], by simp [iZero]⟩
  have room2 := pre_room htight hil (iGet k) iDrop rfl rfl
  have A41 : ModAt W41.cell? { S with types := sT, globals := sG, codes := sC } (grown m i (preC (iGet k) iDrop m.codes[i])) :=
    later x1741 (back_codes (hr.mod0 m041) hil oC41 cC (back_body (hr.mod0 m041) oD41 cD bareK bareD)) room2.1 room2.2
  refine ⟨_, mod_cells (c641) rfl, _, mod_cells (c641) rfl, _, mod_cells (c641) rfl, _, mod_cells (c641) rfl, _, mod_cells (c641) rfl, _, mod_cells (c641) rfl, _, mod_cells (c641) rfl, _, mod_cells (c641) rfl, _, mod_cells (c641) rfl, _, mod_cells (c641) rfl, _, mod_cells (c641) rfl, ?_⟩
  refine CallV.mk ent_valid_Check (Check_spec (S := { S with types := sT, globals := sG, codes := sC }) (m := grown m i (preC (iGet k) iDrop m.codes[i])) (Sub.self W41) A41) ?_
  rw [law2]
  rintro e W42 ⟨rfl, hm42⟩
  refine ⟨_, rfl, 12, rfl, Br.mk (fun h => by simp at h) (fun _ => ?_)⟩
  have c642 := hm42.heap c641 (fun h => h)
  have oC42 := oC41.mod0 hm42
  have oD42 := oD41.mod0 hm42
  have x1742 := x1741.trans0 hm42
  have m042 := m041.trans0 hm42
  have hset : (vsC.set (i * 2 + 1) sD.v)[i * 2 + 1]? = some sD.v := by rw [List.getElem?_set, if_pos rfl, if_pos (by rw [cC.1]; exact idx_lt hil (by omega))]
  obtain ⟨qE, hqE, cqE⟩ := oC42.cell hset
  rw [hqN] at hqE; cases hqE
  have hDl : sD.len = 2 + m.codes[i].body.length := by
    have := oD42.1
    rw [List.length_append, List.length_append, insC_len, insC_len, cD.1] at this; omega
  obtain ⟨qD, hqD, _⟩ := oD42.cell (i := 0) (v := .int .i64 32) rfl
  refine ⟨sC, mod_cells c642 rfl, qN, ⟨hqN, by omega, by omega⟩, sD, by rw [add_add]; exact cqE, qD, ⟨hqD, by omega, by omega⟩, ?_⟩
  refine Own.first (x := iGet k) (y := iZero) (vs := insC iDrop ++ vsD) (by rw [← List.append_assoc]; exact oD42) hqD (fun W43 oD43 m43 z43 => ?_)
  have fD : ∀ b, sD.isB b → W38.heap.size ≤ b := nD.fresh
  have x1743 : Mod X W17 W43 := x1742.trans m43 (fun b hb y => by rw [hX]; have := fD b y; have := x1738.size; exact .inr (by omega))
  have m043 : Mod NoB W W43 := m042.trans m43 (fun b hb y => by have := fD b y; have := m038.size; omega)
  have c643 : W43.heap[b6]? = some (.cells (ModC { S with types := sT, globals := sG, codes := sC } m) 32 (0, 0)) := m43.heap c642 (fun y => by have := fD _ y; have := heap_lt c638; omega)
  have oC43 := oC42.mod m43 (fun b y z => by have := fD b z; have := oC38.lt y; omega)
  have room3 := pre_room htight hil iZero iDrop rfl rfl
  have A43 : ModAt W43.cell? { S with types := sT, globals := sG, codes := sC } (grown m i (preC iZero iDrop m.codes[i])) :=
    later x1743 (back_codes (hr.mod0 m043) hil oC43 cC (back_body (hr.mod0 m043) (by rw [List.append_assoc]; exact oD43) cD bareZ bareD)) room3.1 room3.2
  refine ⟨_, mod_cells (c643) rfl, _, mod_cells (c643) rfl, _, mod_cells (c643) rfl, _, mod_cells (c643) rfl, _, mod_cells (c643) rfl, _, mod_cells (c643) rfl, _, mod_cells (c643) rfl, _, mod_cells (c643) rfl, _, mod_cells (c643) rfl, _, mod_cells (c643) rfl, _, mod_cells (c643) rfl, ?_⟩
  refine CallV.mk ent_valid_Check (Check_spec (S := { S with types := sT, globals := sG, codes := sC }) (m := grown m i (preC iZero iDrop m.codes[i])) (Sub.self W43) A43) ?_
  rw [law3]
  rintro e W44 ⟨rfl, hm44⟩
  exact ⟨_, rfl, 0, rfl, rfl, m043.trans0 hm44⟩
end Go.Proofs.YtacjnpahlbibhaaDoor

/- Verification conditions of the functions, printed by wip/tools/gen.py out of the loaded functions; each is checked by the kernel. -/
import Derived.Test.YtacjnpahlbibhaaDoorTab
set_option linter.unusedVariables false
set_option maxRecDepth 100000
namespace Go.Proofs.YtacjnpahlbibhaaDoor
open Go

/-- plait/plaitlaw15.ValidGrows -/
def V_plaitlaw15_ValidGrows (s0_0 : Sl) (s0_1 : Sl) (s0_2 : Sl) (s0_3 : Sl) (s0_4 : Sl) (s0_5 : Sl) (s0_6 : Sl) (x0_7 : Int) (s0_8 : Sl) (s0_9 : Sl) (s0_10 : Sl) (x1 : Int) (W : World) (R : Ending → World → Prop) : Prop :=
  Na W #[s0_0.v, s0_1.v, s0_2.v, s0_3.v, s0_4.v, s0_5.v, s0_6.v, (.int .i64 x0_7), s0_8.v, s0_9.v, s0_10.v] 32 fun q2 W1 =>
  CallV Tryd.prog 5 #[] W1 fun v W2 => ∃ b11 : Bool, v = (.bool b11) ∧
  Br (!b11)
    (R (.returned (.bool false)) W2)
    (∃ s13_0 : Sl, W2.cell? (q2.add 0) = some s13_0.v ∧
    ∃ s13_1 : Sl, W2.cell? (q2.add 1) = some s13_1.v ∧
    ∃ s13_2 : Sl, W2.cell? (q2.add 2) = some s13_2.v ∧
    ∃ s13_3 : Sl, W2.cell? (q2.add 3) = some s13_3.v ∧
    ∃ s13_4 : Sl, W2.cell? (q2.add 4) = some s13_4.v ∧
    ∃ s13_5 : Sl, W2.cell? (q2.add 5) = some s13_5.v ∧
    ∃ s13_6 : Sl, W2.cell? (q2.add 6) = some s13_6.v ∧
    ∃ x13_7 : Int, W2.cell? (q2.add 7) = some (.int .i64 x13_7) ∧
    ∃ s13_8 : Sl, W2.cell? (q2.add 8) = some s13_8.v ∧
    ∃ s13_9 : Sl, W2.cell? (q2.add 9) = some s13_9.v ∧
    ∃ s13_10 : Sl, W2.cell? (q2.add 10) = some s13_10.v ∧
    CallV Tryd.prog 6 #[(.agg #[s13_0.v, s13_1.v, s13_2.v, s13_3.v, s13_4.v, s13_5.v, s13_6.v, (.int .i64 x13_7), s13_8.v, s13_9.v, s13_10.v])] W2 fun v W3 => ∃ x14 : Int, v = (.int .i64 x14) ∧
    ∃ s19 : Sl, (((x14 : Int) != 0) = false → W3.cell? (q2.add 0) = some s19.v) ∧
    ∃ s25 : Sl, ((((x14 : Int) != 0) || (decide (((s19.len : Int) : Int) ≥ 256))) = false → W3.cell? (q2.add 5) = some s25.v) ∧
    ∃ s31 : Sl, (((((x14 : Int) != 0) || (decide (((s19.len : Int) : Int) ≥ 256))) || (decide (((s25.len : Int) : Int) ≥ 512))) = false → W3.cell? (q2.add 9) = some s31.v) ∧
    Br (((((x14 : Int) != 0) || (decide (((s19.len : Int) : Int) ≥ 256))) || (decide (((s25.len : Int) : Int) ≥ 512))) || (((s31.len : Int) : Int) == 0))
      (R (.returned (.bool true)) W3)
      (∃ s35_0 : Sl, W3.cell? (q2.add 0) = some s35_0.v ∧
      ∃ s35_1 : Sl, W3.cell? (q2.add 1) = some s35_1.v ∧
      ∃ s35_2 : Sl, W3.cell? (q2.add 2) = some s35_2.v ∧
      ∃ s35_3 : Sl, W3.cell? (q2.add 3) = some s35_3.v ∧
      ∃ s35_4 : Sl, W3.cell? (q2.add 4) = some s35_4.v ∧
      ∃ s35_5 : Sl, W3.cell? (q2.add 5) = some s35_5.v ∧
      ∃ s35_6 : Sl, W3.cell? (q2.add 6) = some s35_6.v ∧
      ∃ x35_7 : Int, W3.cell? (q2.add 7) = some (.int .i64 x35_7) ∧
      ∃ s35_8 : Sl, W3.cell? (q2.add 8) = some s35_8.v ∧
      ∃ s35_9 : Sl, W3.cell? (q2.add 9) = some s35_9.v ∧
      ∃ s35_10 : Sl, W3.cell? (q2.add 10) = some s35_10.v ∧
      Na W3 #[(.slice none 0 0), (.slice none 0 0), (.slice none 0 0), (.slice none 0 0), (.slice none 0 0), (.slice none 0 0), (.slice none 0 0), (.int .i64 0), (.slice none 0 0), (.slice none 0 0), (.slice none 0 0)] 32 fun q6 W4 =>
      stC W4 q6 [s35_0.v, s35_1.v, s35_2.v, s35_3.v, s35_4.v, s35_5.v, s35_6.v, (.int .i64 x35_7), s35_8.v, s35_9.v, s35_10.v] 0 fun W5 =>
      Na W5 #[] 37 fun q36 W6 =>
      ∃ s38 : Sl, W6.cell? (q2.add 0) = some s38.v ∧
      RunV Tryd.prog (Builtin.append_ #[22, 22] 22 #[(.slice (some q36) 0 0), s38.v]) W6 fun v W7 => ∃ s39 : Sl, v = s39.v ∧
      Na W7 #[(.int .i64 123)] 3 fun q40 W8 =>
      Na W8 #[(.slice (some q40) 1 1), (.slice none 0 0)] 37 fun q42 W9 =>
      RunV Tryd.prog (Builtin.append_ #[22, 22] 22 #[s39.v, (.slice (some q42) 1 1)]) W9 fun v W10 => ∃ s43 : Sl, v = s43.v ∧
      stC W10 (q6.add 0) [s43.v] 0 fun W11 =>
      Na W11 #[] 43 fun q45 W12 =>
      ∃ s47 : Sl, W12.cell? (q2.add 5) = some s47.v ∧
      RunV Tryd.prog (Builtin.append_ #[26, 26] 26 #[(.slice (some q45) 0 0), s47.v]) W12 fun v W13 => ∃ s48 : Sl, v = s48.v ∧
      Na W13 #[(.int .i64 64780), (.int .i64 0), (.int .i64 0), (.int .u64 0), (.int .u64 0), (.slice none 0 0), (.int .i64 11), (.int .i64 0), (.int .i64 0), (.int .u64 0), (.int .u64 0), (.slice none 0 0)] 40 fun q51 W14 =>
      Na W14 #[(.int .i64 123), (.bool false), (.slice (some q51) 2 2)] 43 fun q53 W15 =>
      RunV Tryd.prog (Builtin.append_ #[26, 26] 26 #[s48.v, (.slice (some q53) 1 1)]) W15 fun v W16 => ∃ s54 : Sl, v = s54.v ∧
      stC W16 (q6.add 5) [s54.v] 0 fun W17 =>
      ∃ s59 : Sl, W17.cell? (q2.add 9) = some s59.v ∧
      ((IntKind.wrap .u64 (s59.len : Int)) : Int) ≠ 0 ∧
      ∃ s64_0 : Sl, W17.cell? (q6.add 0) = some s64_0.v ∧
      ∃ s64_1 : Sl, W17.cell? (q6.add 1) = some s64_1.v ∧
      ∃ s64_2 : Sl, W17.cell? (q6.add 2) = some s64_2.v ∧
      ∃ s64_3 : Sl, W17.cell? (q6.add 3) = some s64_3.v ∧
      ∃ s64_4 : Sl, W17.cell? (q6.add 4) = some s64_4.v ∧
      ∃ s64_5 : Sl, W17.cell? (q6.add 5) = some s64_5.v ∧
      ∃ s64_6 : Sl, W17.cell? (q6.add 6) = some s64_6.v ∧
      ∃ x64_7 : Int, W17.cell? (q6.add 7) = some (.int .i64 x64_7) ∧
      ∃ s64_8 : Sl, W17.cell? (q6.add 8) = some s64_8.v ∧
      ∃ s64_9 : Sl, W17.cell? (q6.add 9) = some s64_9.v ∧
      ∃ s64_10 : Sl, W17.cell? (q6.add 10) = some s64_10.v ∧
      Na W17 #[(.slice none 0 0), (.slice none 0 0), (.slice none 0 0), (.slice none 0 0), (.slice none 0 0), (.slice none 0 0), (.slice none 0 0), (.int .i64 0), (.slice none 0 0), (.slice none 0 0), (.slice none 0 0)] 32 fun q7 W18 =>
      stC W18 q7 [s64_0.v, s64_1.v, s64_2.v, s64_3.v, s64_4.v, s64_5.v, s64_6.v, (.int .i64 x64_7), s64_8.v, s64_9.v, s64_10.v] 0 fun W19 =>
      Na W19 #[] 46 fun q65 W20 =>
      ∃ s67 : Sl, W20.cell? (q2.add 9) = some s67.v ∧
      RunV Tryd.prog (Builtin.append_ #[29, 29] 29 #[(.slice (some q65) 0 0), s67.v]) W20 fun v W21 => ∃ s68 : Sl, v = s68.v ∧
      stC W21 (q7.add 9) [s68.v] 0 fun W22 =>
      Dw W22 fun W23 =>
      ∃ S : World → Prop, S W23 ∧
      ∃ s71 : Sl, (∀ w, S w → w.cell? (q7.add 9) = some s71.v) ∧
      ∃ s77 : Sl, (∀ w, S w → w.cell? (q2.add 9) = some s77.v) ∧
      ∃ q79 : Addr, (s77.a = some q79 ∧ (0 : Int) ≤ (IntKind.wrap .i64 (Int.tmod (IntKind.wrap .u64 x1) (IntKind.wrap .u64 (s59.len : Int)))) ∧ (IntKind.wrap .i64 (Int.tmod (IntKind.wrap .u64 x1) (IntKind.wrap .u64 (s59.len : Int)))) < (s77.len : Int)) ∧
      ∃ s81 : Sl, (∀ w, S w → w.cell? ((q79.add (((IntKind.wrap .i64 (Int.tmod (IntKind.wrap .u64 x1) (IntKind.wrap .u64 (s59.len : Int)))) : Int).toNat * 2)).add 1) = some s81.v) ∧
      Na W23 #[(.int .i64 32), (.int .i64 1048576), (.int .i64 0), (.int .u64 0), (.int .u64 0), (.slice none 0 0), (.int .i64 26), (.int .i64 0), (.int .i64 0), (.int .u64 0), (.int .u64 0), (.slice none 0 0)] 40 fun q75 W24 =>
      S W24 ∧
      RunV Tryd.prog (Builtin.append_ #[41, 41] 41 #[(.slice (some q75) 2 2), s81.v]) W24 fun v W25 => ∃ s82 : Sl, v = s82.v ∧
      S W25 ∧
      ∃ q83 : Addr, (s71.a = some q83 ∧ (0 : Int) ≤ (IntKind.wrap .i64 (Int.tmod (IntKind.wrap .u64 x1) (IntKind.wrap .u64 (s59.len : Int)))) ∧ (IntKind.wrap .i64 (Int.tmod (IntKind.wrap .u64 x1) (IntKind.wrap .u64 (s59.len : Int)))) < (s71.len : Int)) ∧
      stC W25 ((q83.add (((IntKind.wrap .i64 (Int.tmod (IntKind.wrap .u64 x1) (IntKind.wrap .u64 (s59.len : Int)))) : Int).toNat * 2)).add 1) [s82.v] 0 fun W26 =>
      ∃ s85_0 : Sl, W26.cell? (q7.add 0) = some s85_0.v ∧
      ∃ s85_1 : Sl, W26.cell? (q7.add 1) = some s85_1.v ∧
      ∃ s85_2 : Sl, W26.cell? (q7.add 2) = some s85_2.v ∧
      ∃ s85_3 : Sl, W26.cell? (q7.add 3) = some s85_3.v ∧
      ∃ s85_4 : Sl, W26.cell? (q7.add 4) = some s85_4.v ∧
      ∃ s85_5 : Sl, W26.cell? (q7.add 5) = some s85_5.v ∧
      ∃ s85_6 : Sl, W26.cell? (q7.add 6) = some s85_6.v ∧
      ∃ x85_7 : Int, W26.cell? (q7.add 7) = some (.int .i64 x85_7) ∧
      ∃ s85_8 : Sl, W26.cell? (q7.add 8) = some s85_8.v ∧
      ∃ s85_9 : Sl, W26.cell? (q7.add 9) = some s85_9.v ∧
      ∃ s85_10 : Sl, W26.cell? (q7.add 10) = some s85_10.v ∧
      CallV Tryd.prog 6 #[(.agg #[s85_0.v, s85_1.v, s85_2.v, s85_3.v, s85_4.v, s85_5.v, s85_6.v, (.int .i64 x85_7), s85_8.v, s85_9.v, s85_10.v])] W26 fun v W27 => ∃ x86 : Int, v = (.int .i64 x86) ∧
      Br ((x86 : Int) == 4)
        (R (.returned (.bool true)) W27)
        (∃ s88_0 : Sl, W27.cell? (q6.add 0) = some s88_0.v ∧
        ∃ s88_1 : Sl, W27.cell? (q6.add 1) = some s88_1.v ∧
        ∃ s88_2 : Sl, W27.cell? (q6.add 2) = some s88_2.v ∧
        ∃ s88_3 : Sl, W27.cell? (q6.add 3) = some s88_3.v ∧
        ∃ s88_4 : Sl, W27.cell? (q6.add 4) = some s88_4.v ∧
        ∃ s88_5 : Sl, W27.cell? (q6.add 5) = some s88_5.v ∧
        ∃ s88_6 : Sl, W27.cell? (q6.add 6) = some s88_6.v ∧
        ∃ x88_7 : Int, W27.cell? (q6.add 7) = some (.int .i64 x88_7) ∧
        ∃ s88_8 : Sl, W27.cell? (q6.add 8) = some s88_8.v ∧
        ∃ s88_9 : Sl, W27.cell? (q6.add 9) = some s88_9.v ∧
        ∃ s88_10 : Sl, W27.cell? (q6.add 10) = some s88_10.v ∧
        CallV Tryd.prog 6 #[(.agg #[s88_0.v, s88_1.v, s88_2.v, s88_3.v, s88_4.v, s88_5.v, s88_6.v, (.int .i64 x88_7), s88_8.v, s88_9.v, s88_10.v])] W27 fun v W28 => ∃ x89 : Int, v = (.int .i64 x89) ∧
        Br ((x89 : Int) != 0)
          (R (.returned (.bool false)) W28)
          (∃ s92_0 : Sl, W28.cell? (q2.add 0) = some s92_0.v ∧
          ∃ s92_1 : Sl, W28.cell? (q2.add 1) = some s92_1.v ∧
          ∃ s92_2 : Sl, W28.cell? (q2.add 2) = some s92_2.v ∧
          ∃ s92_3 : Sl, W28.cell? (q2.add 3) = some s92_3.v ∧
          ∃ s92_4 : Sl, W28.cell? (q2.add 4) = some s92_4.v ∧
          ∃ s92_5 : Sl, W28.cell? (q2.add 5) = some s92_5.v ∧
          ∃ s92_6 : Sl, W28.cell? (q2.add 6) = some s92_6.v ∧
          ∃ x92_7 : Int, W28.cell? (q2.add 7) = some (.int .i64 x92_7) ∧
          ∃ s92_8 : Sl, W28.cell? (q2.add 8) = some s92_8.v ∧
          ∃ s92_9 : Sl, W28.cell? (q2.add 9) = some s92_9.v ∧
          ∃ s92_10 : Sl, W28.cell? (q2.add 10) = some s92_10.v ∧
          ∃ s94 : Sl, W28.cell? (q2.add 1) = some s94.v ∧
          CallV Tryd.prog 7 #[(.agg #[s92_0.v, s92_1.v, s92_2.v, s92_3.v, s92_4.v, s92_5.v, s92_6.v, (.int .i64 x92_7), s92_8.v, s92_9.v, s92_10.v]), (.int .i64 (IntKind.wrap .i64 ((s94.len : Int) + (IntKind.wrap .i64 (Int.tmod (IntKind.wrap .u64 x1) (IntKind.wrap .u64 (s59.len : Int)))))))] W28 fun v W29 => ∃ s98_0_0 : Sl, ∃ s98_0_1 : Sl, ∃ b98_1 : Bool, v = (.tuple #[(.agg #[s98_0_0.v, s98_0_1.v]), (.bool b98_1)]) ∧
          Na W29 #[(.slice none 0 0), (.slice none 0 0)] 37 fun q8 W30 =>
          stC W30 q8 [s98_0_0.v, s98_0_1.v] 0 fun W31 =>
          Dw W31 fun W32 =>
          ∃ S_1 : World → Prop, S_1 W32 ∧
          ∃ s102 : Sl, (∀ w, S_1 w → w.cell? (q8.add 0) = some s102.v) ∧
          ∃ s105 : Sl, (∀ w, S_1 w → w.cell? (q2.add 9) = some s105.v) ∧
          ∃ q107 : Addr, (s105.a = some q107 ∧ (0 : Int) ≤ (IntKind.wrap .i64 (Int.tmod (IntKind.wrap .u64 x1) (IntKind.wrap .u64 (s59.len : Int)))) ∧ (IntKind.wrap .i64 (Int.tmod (IntKind.wrap .u64 x1) (IntKind.wrap .u64 (s59.len : Int)))) < (s105.len : Int)) ∧
          ∃ s109 : Sl, (∀ w, S_1 w → w.cell? ((q107.add (((IntKind.wrap .i64 (Int.tmod (IntKind.wrap .u64 x1) (IntKind.wrap .u64 (s59.len : Int)))) : Int).toNat * 2)).add 0) = some s109.v) ∧
          Na W32 #[(.int .i64 0), (.int .i64 0), (.int .i64 0), (.int .u64 0), (.int .u64 0), (.slice none 0 0)] 40 fun q10 W33 =>
          S_1 W33 ∧
          stC W33 q10 [(.int .i64 32), (.int .i64 (IntKind.wrap .i64 ((s102.len : Int) + (s109.len : Int)))), (.int .i64 0), (.int .u64 0), (.int .u64 0), (.slice none 0 0)] 0 fun W34 =>
          Na W34 #[] 46 fun q113 W35 =>
          ∃ s115 : Sl, W35.cell? (q2.add 9) = some s115.v ∧
          RunV Tryd.prog (Builtin.append_ #[29, 29] 29 #[(.slice (some q113) 0 0), s115.v]) W35 fun v W36 => ∃ s116 : Sl, v = s116.v ∧
          stC W36 (q6.add 9) [s116.v] 0 fun W37 =>
          Dw W37 fun W38 =>
          ∃ S_2 : World → Prop, S_2 W38 ∧
          ∃ s119 : Sl, (∀ w, S_2 w → w.cell? (q6.add 9) = some s119.v) ∧
          ∃ x121_0 : Int, (∀ w, S_2 w → w.cell? (q10.add 0) = some (.int .i64 x121_0)) ∧
          ∃ x121_1 : Int, (∀ w, S_2 w → w.cell? (q10.add 1) = some (.int .i64 x121_1)) ∧
          ∃ x121_2 : Int, (∀ w, S_2 w → w.cell? (q10.add 2) = some (.int .i64 x121_2)) ∧
          ∃ x121_3 : Int, (∀ w, S_2 w → w.cell? (q10.add 3) = some (.int .u64 x121_3)) ∧
          ∃ x121_4 : Int, (∀ w, S_2 w → w.cell? (q10.add 4) = some (.int .u64 x121_4)) ∧
          ∃ s121_5 : Sl, (∀ w, S_2 w → w.cell? (q10.add 5) = some s121_5.v) ∧
          ∃ s125 : Sl, (∀ w, S_2 w → w.cell? (q2.add 9) = some s125.v) ∧
          ∃ q127 : Addr, (s125.a = some q127 ∧ (0 : Int) ≤ (IntKind.wrap .i64 (Int.tmod (IntKind.wrap .u64 x1) (IntKind.wrap .u64 (s59.len : Int)))) ∧ (IntKind.wrap .i64 (Int.tmod (IntKind.wrap .u64 x1) (IntKind.wrap .u64 (s59.len : Int)))) < (s125.len : Int)) ∧
          ∃ s129 : Sl, (∀ w, S_2 w → w.cell? ((q127.add (((IntKind.wrap .i64 (Int.tmod (IntKind.wrap .u64 x1) (IntKind.wrap .u64 (s59.len : Int)))) : Int).toNat * 2)).add 1) = some s129.v) ∧
          Na W38 #[(.int .i64 x121_0), (.int .i64 x121_1), (.int .i64 x121_2), (.int .u64 x121_3), (.int .u64 x121_4), s121_5.v, (.int .i64 26), (.int .i64 0), (.int .i64 0), (.int .u64 0), (.int .u64 0), (.slice none 0 0)] 40 fun q123 W39 =>
          S_2 W39 ∧
          RunV Tryd.prog (Builtin.append_ #[41, 41] 41 #[(.slice (some q123) 2 2), s129.v]) W39 fun v W40 => ∃ s130 : Sl, v = s130.v ∧
          S_2 W40 ∧
          ∃ q131 : Addr, (s119.a = some q131 ∧ (0 : Int) ≤ (IntKind.wrap .i64 (Int.tmod (IntKind.wrap .u64 x1) (IntKind.wrap .u64 (s59.len : Int)))) ∧ (IntKind.wrap .i64 (Int.tmod (IntKind.wrap .u64 x1) (IntKind.wrap .u64 (s59.len : Int)))) < (s119.len : Int)) ∧
          stC W40 ((q131.add (((IntKind.wrap .i64 (Int.tmod (IntKind.wrap .u64 x1) (IntKind.wrap .u64 (s59.len : Int)))) : Int).toNat * 2)).add 1) [s130.v] 0 fun W41 =>
          ∃ s133_0 : Sl, W41.cell? (q6.add 0) = some s133_0.v ∧
          ∃ s133_1 : Sl, W41.cell? (q6.add 1) = some s133_1.v ∧
          ∃ s133_2 : Sl, W41.cell? (q6.add 2) = some s133_2.v ∧
          ∃ s133_3 : Sl, W41.cell? (q6.add 3) = some s133_3.v ∧
          ∃ s133_4 : Sl, W41.cell? (q6.add 4) = some s133_4.v ∧
          ∃ s133_5 : Sl, W41.cell? (q6.add 5) = some s133_5.v ∧
          ∃ s133_6 : Sl, W41.cell? (q6.add 6) = some s133_6.v ∧
          ∃ x133_7 : Int, W41.cell? (q6.add 7) = some (.int .i64 x133_7) ∧
          ∃ s133_8 : Sl, W41.cell? (q6.add 8) = some s133_8.v ∧
          ∃ s133_9 : Sl, W41.cell? (q6.add 9) = some s133_9.v ∧
          ∃ s133_10 : Sl, W41.cell? (q6.add 10) = some s133_10.v ∧
          CallV Tryd.prog 6 #[(.agg #[s133_0.v, s133_1.v, s133_2.v, s133_3.v, s133_4.v, s133_5.v, s133_6.v, (.int .i64 x133_7), s133_8.v, s133_9.v, s133_10.v])] W41 fun v W42 => ∃ x134 : Int, v = (.int .i64 x134) ∧
          Br ((x134 : Int) != 12)
            (R (.returned (.bool false)) W42)
            (∃ s137 : Sl, W42.cell? (q6.add 9) = some s137.v ∧
            ∃ q139 : Addr, (s137.a = some q139 ∧ (0 : Int) ≤ (IntKind.wrap .i64 (Int.tmod (IntKind.wrap .u64 x1) (IntKind.wrap .u64 (s59.len : Int)))) ∧ (IntKind.wrap .i64 (Int.tmod (IntKind.wrap .u64 x1) (IntKind.wrap .u64 (s59.len : Int)))) < (s137.len : Int)) ∧
            ∃ s141 : Sl, W42.cell? ((q139.add (((IntKind.wrap .i64 (Int.tmod (IntKind.wrap .u64 x1) (IntKind.wrap .u64 (s59.len : Int)))) : Int).toNat * 2)).add 1) = some s141.v ∧
            ∃ q143 : Addr, (s141.a = some q143 ∧ (0 : Int) ≤ 0 ∧ 0 < (s141.len : Int)) ∧
            stC W42 (q143.add ((0 : Int).toNat * 6)) [(.int .i64 65), (.int .i64 0), (.int .i64 0), (.int .u64 0), (.int .u64 0), (.slice none 0 0)] 0 fun W43 =>
            ∃ s144_0 : Sl, W43.cell? (q6.add 0) = some s144_0.v ∧
            ∃ s144_1 : Sl, W43.cell? (q6.add 1) = some s144_1.v ∧
            ∃ s144_2 : Sl, W43.cell? (q6.add 2) = some s144_2.v ∧
            ∃ s144_3 : Sl, W43.cell? (q6.add 3) = some s144_3.v ∧
            ∃ s144_4 : Sl, W43.cell? (q6.add 4) = some s144_4.v ∧
            ∃ s144_5 : Sl, W43.cell? (q6.add 5) = some s144_5.v ∧
            ∃ s144_6 : Sl, W43.cell? (q6.add 6) = some s144_6.v ∧
            ∃ x144_7 : Int, W43.cell? (q6.add 7) = some (.int .i64 x144_7) ∧
            ∃ s144_8 : Sl, W43.cell? (q6.add 8) = some s144_8.v ∧
            ∃ s144_9 : Sl, W43.cell? (q6.add 9) = some s144_9.v ∧
            ∃ s144_10 : Sl, W43.cell? (q6.add 10) = some s144_10.v ∧
            CallV Tryd.prog 6 #[(.agg #[s144_0.v, s144_1.v, s144_2.v, s144_3.v, s144_4.v, s144_5.v, s144_6.v, (.int .i64 x144_7), s144_8.v, s144_9.v, s144_10.v])] W43 fun v W44 => ∃ x145 : Int, v = (.int .i64 x145) ∧
            R (.returned (.bool ((x145 : Int) == 0))) W44)))))
theorem of_plaitlaw15_ValidGrows (s0_0 : Sl) (s0_1 : Sl) (s0_2 : Sl) (s0_3 : Sl) (s0_4 : Sl) (s0_5 : Sl) (s0_6 : Sl) (x0_7 : Int) (s0_8 : Sl) (s0_9 : Sl) (s0_10 : Sl) (x1 : Int) (W : World) (R : Ending → World → Prop) (h : V_plaitlaw15_ValidGrows s0_0 s0_1 s0_2 s0_3 s0_4 s0_5 s0_6 x0_7 s0_8 s0_9 s0_10 x1 W R) : Calls Tryd.prog 3 #[(.agg #[s0_0.v, s0_1.v, s0_2.v, s0_3.v, s0_4.v, s0_5.v, s0_6.v, (.int .i64 x0_7), s0_8.v, s0_9.v, s0_10.v]), (.int .i64 x1)] W R :=
  calls_of_vcF Tryd.mix Tryd.func3 (an := (.seq .nil (.seq (.seq .nil (.cond (.seq .nil .nil) .nil)) (.seq .nil (.seq (.seq .nil (.cond (.seq .nil .nil) .nil)) (.seq .nil (.seq .nil (.seq .nil (.seq .nil (.seq .nil (.seq .nil (.seq .nil (.seq (.seq .nil (.cond (.seq .nil .nil) .nil)) (.seq (.seq .nil (.cond (.seq .nil .nil) .nil)) (.seq .nil (.seq .nil (.seq .nil (.seq .nil (.seq (.seq .nil (.cond (.seq .nil .nil) .nil)) (.seq .nil (.seq .nil .nil))))))))))))))))))))) (args := [(.agg #[s0_0.v, s0_1.v, s0_2.v, s0_3.v, s0_4.v, s0_5.v, s0_6.v, (.int .i64 x0_7), s0_8.v, s0_9.v, s0_10.v]), (.int .i64 x1)]) (Eq.mpr (by kernel_rfl : vcF Tryd.prog Tryd.f3 (.seq .nil (.seq (.seq .nil (.cond (.seq .nil .nil) .nil)) (.seq .nil (.seq (.seq .nil (.cond (.seq .nil .nil) .nil)) (.seq .nil (.seq .nil (.seq .nil (.seq .nil (.seq .nil (.seq .nil (.seq .nil (.seq (.seq .nil (.cond (.seq .nil .nil) .nil)) (.seq (.seq .nil (.cond (.seq .nil .nil) .nil)) (.seq .nil (.seq .nil (.seq .nil (.seq .nil (.seq (.seq .nil (.cond (.seq .nil .nil) .nil)) (.seq .nil (.seq .nil .nil)))))))))))))))))))) [(.agg #[s0_0.v, s0_1.v, s0_2.v, s0_3.v, s0_4.v, s0_5.v, s0_6.v, (.int .i64 x0_7), s0_8.v, s0_9.v, s0_10.v]), (.int .i64 x1)] W R = V_plaitlaw15_ValidGrows s0_0 s0_1 s0_2 s0_3 s0_4 s0_5 s0_6 x0_7 s0_8 s0_9 s0_10 x1 W R) h)

/-- plait/plaitlaw15.ValidKeeps -/
def V_plaitlaw15_ValidKeeps (s0_0 : Sl) (s0_1 : Sl) (s0_2 : Sl) (s0_3 : Sl) (s0_4 : Sl) (s0_5 : Sl) (s0_6 : Sl) (x0_7 : Int) (s0_8 : Sl) (s0_9 : Sl) (s0_10 : Sl) (x1 : Int) (W : World) (R : Ending → World → Prop) : Prop :=
  Na W #[s0_0.v, s0_1.v, s0_2.v, s0_3.v, s0_4.v, s0_5.v, s0_6.v, (.int .i64 x0_7), s0_8.v, s0_9.v, s0_10.v] 32 fun q2 W1 =>
  CallV Tryd.prog 5 #[] W1 fun v W2 => ∃ b24 : Bool, v = (.bool b24) ∧
  Br (!b24)
    (R (.returned (.bool false)) W2)
    (∃ s26_0 : Sl, W2.cell? (q2.add 0) = some s26_0.v ∧
    ∃ s26_1 : Sl, W2.cell? (q2.add 1) = some s26_1.v ∧
    ∃ s26_2 : Sl, W2.cell? (q2.add 2) = some s26_2.v ∧
    ∃ s26_3 : Sl, W2.cell? (q2.add 3) = some s26_3.v ∧
    ∃ s26_4 : Sl, W2.cell? (q2.add 4) = some s26_4.v ∧
    ∃ s26_5 : Sl, W2.cell? (q2.add 5) = some s26_5.v ∧
    ∃ s26_6 : Sl, W2.cell? (q2.add 6) = some s26_6.v ∧
    ∃ x26_7 : Int, W2.cell? (q2.add 7) = some (.int .i64 x26_7) ∧
    ∃ s26_8 : Sl, W2.cell? (q2.add 8) = some s26_8.v ∧
    ∃ s26_9 : Sl, W2.cell? (q2.add 9) = some s26_9.v ∧
    ∃ s26_10 : Sl, W2.cell? (q2.add 10) = some s26_10.v ∧
    Na W2 #[(.slice none 0 0), (.slice none 0 0), (.slice none 0 0), (.slice none 0 0), (.slice none 0 0), (.slice none 0 0), (.slice none 0 0), (.int .i64 0), (.slice none 0 0), (.slice none 0 0), (.slice none 0 0)] 32 fun q5 W3 =>
    stC W3 q5 [s26_0.v, s26_1.v, s26_2.v, s26_3.v, s26_4.v, s26_5.v, s26_6.v, (.int .i64 x26_7), s26_8.v, s26_9.v, s26_10.v] 0 fun W4 =>
    ∀ J : World → Prop, (∀ W5, (
      stC W5 (q5.add 0) [(.slice none 0 0)] 0 fun W6 =>
      ∀ L : Int → World → Prop, (∀ (x6 : Int) W7, (
        ∃ s41 : Sl, W7.cell? (q2.add 0) = some s41.v ∧
        Br (decide ((x6 : Int) < (s41.len : Int)))
          (Dw W7 fun W8 =>
          ∃ S : World → Prop, S W8 ∧
          ∃ s47 : Sl, (∀ w, S w → w.cell? (q5.add 0) = some s47.v) ∧
          ∃ s50 : Sl, (∀ w, S w → w.cell? (q2.add 0) = some s50.v) ∧
          ∃ q52 : Addr, (s50.a = some q52 ∧ (0 : Int) ≤ x6 ∧ x6 < (s50.len : Int)) ∧
          ∃ s54 : Sl, (∀ w, S w → w.cell? ((q52.add ((x6 : Int).toNat * 2)).add 0) = some s54.v) ∧
          ∃ s58 : Sl, (∀ w, S w → w.cell? (q2.add 0) = some s58.v) ∧
          ∃ q60 : Addr, (s58.a = some q60 ∧ (0 : Int) ≤ x6 ∧ x6 < (s58.len : Int)) ∧
          ∃ s62 : Sl, (∀ w, S w → w.cell? ((q60.add ((x6 : Int).toNat * 2)).add 1) = some s62.v) ∧
          (Na W8 #[] 3 fun q48 W9 =>
          S W9 ∧
          (RunV Tryd.prog (Builtin.append_ #[24, 24] 24 #[(.slice (some q48) 0 0), s54.v]) W9 fun v W10 => ∃ s55 : Sl, v = s55.v ∧
          S W10 ∧
          Na W10 #[] 3 fun q56 W11 =>
          S W11 ∧
          RunV Tryd.prog (Builtin.append_ #[24, 24] 24 #[(.slice (some q56) 0 0), s62.v]) W11 fun v W12 => ∃ s63 : Sl, v = s63.v ∧
          S W12 ∧
          Na W12 #[s55.v, s63.v] 37 fun q65 W13 =>
          S W13 ∧
          RunV Tryd.prog (Builtin.append_ #[22, 22] 22 #[s47.v, (.slice (some q65) 1 1)]) W13 fun v W14 => ∃ s66 : Sl, v = s66.v ∧
          S W14 ∧
          stC W14 (q5.add 0) [s66.v] 0 fun W15 =>
          L (IntKind.wrap .i64 (x6 + 1)) W15) ∧
          (Na W9 #[] 3 fun q56_1 W16 =>
          S W16 ∧
          RunV Tryd.prog (Builtin.append_ #[24, 24] 24 #[(.slice (some q48) 0 0), s54.v]) W16 fun v W17 => ∃ s55_1 : Sl, v = s55_1.v ∧
          S W17 ∧
          RunV Tryd.prog (Builtin.append_ #[24, 24] 24 #[(.slice (some q56_1) 0 0), s62.v]) W17 fun v W18 => ∃ s63_1 : Sl, v = s63_1.v ∧
          S W18 ∧
          Na W18 #[s55_1.v, s63_1.v] 37 fun q65_1 W19 =>
          S W19 ∧
          RunV Tryd.prog (Builtin.append_ #[22, 22] 22 #[s47.v, (.slice (some q65_1) 1 1)]) W19 fun v W20 => ∃ s66_1 : Sl, v = s66_1.v ∧
          S W20 ∧
          stC W20 (q5.add 0) [s66_1.v] 0 fun W21 =>
          L (IntKind.wrap .i64 (x6 + 1)) W21)) ∧
          (Na W8 #[] 3 fun q56_2 W22 =>
          S W22 ∧
          Na W22 #[] 3 fun q48_1 W23 =>
          S W23 ∧
          RunV Tryd.prog (Builtin.append_ #[24, 24] 24 #[(.slice (some q48_1) 0 0), s54.v]) W23 fun v W24 => ∃ s55_2 : Sl, v = s55_2.v ∧
          S W24 ∧
          RunV Tryd.prog (Builtin.append_ #[24, 24] 24 #[(.slice (some q56_2) 0 0), s62.v]) W24 fun v W25 => ∃ s63_2 : Sl, v = s63_2.v ∧
          S W25 ∧
          Na W25 #[s55_2.v, s63_2.v] 37 fun q65_2 W26 =>
          S W26 ∧
          RunV Tryd.prog (Builtin.append_ #[22, 22] 22 #[s47.v, (.slice (some q65_2) 1 1)]) W26 fun v W27 => ∃ s66_2 : Sl, v = s66_2.v ∧
          S W27 ∧
          stC W27 (q5.add 0) [s66_2.v] 0 fun W28 =>
          L (IntKind.wrap .i64 (x6 + 1)) W28))
          (∃ s69_0 : Sl, W7.cell? (q5.add 0) = some s69_0.v ∧
          ∃ s69_1 : Sl, W7.cell? (q5.add 1) = some s69_1.v ∧
          ∃ s69_2 : Sl, W7.cell? (q5.add 2) = some s69_2.v ∧
          ∃ s69_3 : Sl, W7.cell? (q5.add 3) = some s69_3.v ∧
          ∃ s69_4 : Sl, W7.cell? (q5.add 4) = some s69_4.v ∧
          ∃ s69_5 : Sl, W7.cell? (q5.add 5) = some s69_5.v ∧
          ∃ s69_6 : Sl, W7.cell? (q5.add 6) = some s69_6.v ∧
          ∃ x69_7 : Int, W7.cell? (q5.add 7) = some (.int .i64 x69_7) ∧
          ∃ s69_8 : Sl, W7.cell? (q5.add 8) = some s69_8.v ∧
          ∃ s69_9 : Sl, W7.cell? (q5.add 9) = some s69_9.v ∧
          ∃ s69_10 : Sl, W7.cell? (q5.add 10) = some s69_10.v ∧
          CallV Tryd.prog 8 #[(.agg #[s69_0.v, s69_1.v, s69_2.v, s69_3.v, s69_4.v, s69_5.v, s69_6.v, (.int .i64 x69_7), s69_8.v, s69_9.v, s69_10.v]), (.int .i64 x1)] W7 fun v W29 => ∃ s71_0 : Sl, ∃ x71_1 : Int, v = (.tuple #[s71_0.v, (.int .i64 x71_1)]) ∧
          ∃ s75_0 : Sl, W29.cell? (q5.add 0) = some s75_0.v ∧
          ∃ s75_1 : Sl, W29.cell? (q5.add 1) = some s75_1.v ∧
          ∃ s75_2 : Sl, W29.cell? (q5.add 2) = some s75_2.v ∧
          ∃ s75_3 : Sl, W29.cell? (q5.add 3) = some s75_3.v ∧
          ∃ s75_4 : Sl, W29.cell? (q5.add 4) = some s75_4.v ∧
          ∃ s75_5 : Sl, W29.cell? (q5.add 5) = some s75_5.v ∧
          ∃ s75_6 : Sl, W29.cell? (q5.add 6) = some s75_6.v ∧
          ∃ x75_7 : Int, W29.cell? (q5.add 7) = some (.int .i64 x75_7) ∧
          ∃ s75_8 : Sl, W29.cell? (q5.add 8) = some s75_8.v ∧
          ∃ s75_9 : Sl, W29.cell? (q5.add 9) = some s75_9.v ∧
          ∃ s75_10 : Sl, W29.cell? (q5.add 10) = some s75_10.v ∧
          CallV Tryd.prog 8 #[(.agg #[s75_0.v, s75_1.v, s75_2.v, s75_3.v, s75_4.v, s75_5.v, s75_6.v, (.int .i64 x75_7), s75_8.v, s75_9.v, s75_10.v]), (.int .i64 x1)] W29 fun v W30 => ∃ s77_0 : Sl, ∃ x77_1 : Int, v = (.tuple #[s77_0.v, (.int .i64 x77_1)]) ∧
          ∃ s81_0 : Sl, W30.cell? (q5.add 0) = some s81_0.v ∧
          ∃ s81_1 : Sl, W30.cell? (q5.add 1) = some s81_1.v ∧
          ∃ s81_2 : Sl, W30.cell? (q5.add 2) = some s81_2.v ∧
          ∃ s81_3 : Sl, W30.cell? (q5.add 3) = some s81_3.v ∧
          ∃ s81_4 : Sl, W30.cell? (q5.add 4) = some s81_4.v ∧
          ∃ s81_5 : Sl, W30.cell? (q5.add 5) = some s81_5.v ∧
          ∃ s81_6 : Sl, W30.cell? (q5.add 6) = some s81_6.v ∧
          ∃ x81_7 : Int, W30.cell? (q5.add 7) = some (.int .i64 x81_7) ∧
          ∃ s81_8 : Sl, W30.cell? (q5.add 8) = some s81_8.v ∧
          ∃ s81_9 : Sl, W30.cell? (q5.add 9) = some s81_9.v ∧
          ∃ s81_10 : Sl, W30.cell? (q5.add 10) = some s81_10.v ∧
          CallV Tryd.prog 7 #[(.agg #[s81_0.v, s81_1.v, s81_2.v, s81_3.v, s81_4.v, s81_5.v, s81_6.v, (.int .i64 x81_7), s81_8.v, s81_9.v, s81_10.v]), (.int .i64 x1)] W30 fun v W31 => ∃ s83_0_0 : Sl, ∃ s83_0_1 : Sl, ∃ b83_1 : Bool, v = (.tuple #[(.agg #[s83_0_0.v, s83_0_1.v]), (.bool b83_1)]) ∧
          Na W31 #[(.slice none 0 0), (.slice none 0 0)] 37 fun q11 W32 =>
          stC W32 q11 [s83_0_0.v, s83_0_1.v] 0 fun W33 =>
          ∃ s87_0 : Sl, W33.cell? (q5.add 0) = some s87_0.v ∧
          ∃ s87_1 : Sl, W33.cell? (q5.add 1) = some s87_1.v ∧
          ∃ s87_2 : Sl, W33.cell? (q5.add 2) = some s87_2.v ∧
          ∃ s87_3 : Sl, W33.cell? (q5.add 3) = some s87_3.v ∧
          ∃ s87_4 : Sl, W33.cell? (q5.add 4) = some s87_4.v ∧
          ∃ s87_5 : Sl, W33.cell? (q5.add 5) = some s87_5.v ∧
          ∃ s87_6 : Sl, W33.cell? (q5.add 6) = some s87_6.v ∧
          ∃ x87_7 : Int, W33.cell? (q5.add 7) = some (.int .i64 x87_7) ∧
          ∃ s87_8 : Sl, W33.cell? (q5.add 8) = some s87_8.v ∧
          ∃ s87_9 : Sl, W33.cell? (q5.add 9) = some s87_9.v ∧
          ∃ s87_10 : Sl, W33.cell? (q5.add 10) = some s87_10.v ∧
          CallV Tryd.prog 7 #[(.agg #[s87_0.v, s87_1.v, s87_2.v, s87_3.v, s87_4.v, s87_5.v, s87_6.v, (.int .i64 x87_7), s87_8.v, s87_9.v, s87_10.v]), (.int .i64 x1)] W33 fun v W34 => ∃ s89_0_0 : Sl, ∃ s89_0_1 : Sl, ∃ b89_1 : Bool, v = (.tuple #[(.agg #[s89_0_0.v, s89_0_1.v]), (.bool b89_1)]) ∧
          Na W34 #[(.slice none 0 0), (.slice none 0 0)] 37 fun q13 W35 =>
          stC W35 q13 [s89_0_0.v, s89_0_1.v] 0 fun W36 =>
          ∀ J_1 : World → Prop, (∀ W37, (
            ∀ L_1 : Int → World → Prop, (∀ (x15 : Int) W38, (
              Br (decide ((x15 : Int) < (s71_0.len : Int)))
                (∃ q131 : Addr, (s71_0.a = some q131 ∧ (0 : Int) ≤ x15 ∧ x15 < (s71_0.len : Int)) ∧
                stC W38 (q131.add ((x15 : Int).toNat * 3)) [(.bool false), (.int .i64 (-1)), (.int .i64 0)] 0 fun W39 =>
                L_1 (IntKind.wrap .i64 (x15 + 1)) W39)
                (∀ L_2 : Int → World → Prop, (∀ (x16 : Int) W40, (
                  ∃ s134 : Sl, W40.cell? (q11.add 0) = some s134.v ∧
                  Br (decide ((x16 : Int) < (s134.len : Int)))
                    (∃ s140 : Sl, W40.cell? (q11.add 0) = some s140.v ∧
                    ∃ q142 : Addr, (s140.a = some q142 ∧ (0 : Int) ≤ x16 ∧ x16 < (s140.len : Int)) ∧
                    stC W40 (q142.add ((x16 : Int).toNat * 1)) [(.int .i64 (-1))] 0 fun W41 =>
                    L_2 (IntKind.wrap .i64 (x16 + 1)) W41)
                    (∀ L_3 : Int → World → Prop, (∀ (x17 : Int) W42, (
                      ∃ s145 : Sl, W42.cell? (q11.add 1) = some s145.v ∧
                      Br (decide ((x17 : Int) < (s145.len : Int)))
                        (∃ s151 : Sl, W42.cell? (q11.add 1) = some s151.v ∧
                        ∃ q153 : Addr, (s151.a = some q153 ∧ (0 : Int) ≤ x17 ∧ x17 < (s151.len : Int)) ∧
                        stC W42 (q153.add ((x17 : Int).toNat * 1)) [(.int .i64 (-2))] 0 fun W43 =>
                        L_3 (IntKind.wrap .i64 (x17 + 1)) W43)
                        (Na W42 #[(.bool false), (.int .i64 (-2)), (.int .i64 0), (.bool false), (.int .i64 (-2)), (.int .i64 0)] 56 fun q157 W44 =>
                        RunV Tryd.prog (Builtin.append_ #[50, 50] 50 #[s71_0.v, (.slice (some q157) 2 2)]) W44 fun v W45 => ∃ s158 : Sl, v = s158.v ∧
                        ∃ s160 : Sl, W45.cell? (q11.add 0) = some s160.v ∧
                        Na W45 #[(.int .i64 (-3)), (.int .i64 (-3)), (.int .i64 (-3))] 3 fun q161 W46 =>
                        RunV Tryd.prog (Builtin.append_ #[24, 24] 24 #[s160.v, (.slice (some q161) 3 3)]) W46 fun v W47 => ∃ s162 : Sl, v = s162.v ∧
                        ∃ s164_0 : Sl, W47.cell? (q5.add 0) = some s164_0.v ∧
                        ∃ s164_1 : Sl, W47.cell? (q5.add 1) = some s164_1.v ∧
                        ∃ s164_2 : Sl, W47.cell? (q5.add 2) = some s164_2.v ∧
                        ∃ s164_3 : Sl, W47.cell? (q5.add 3) = some s164_3.v ∧
                        ∃ s164_4 : Sl, W47.cell? (q5.add 4) = some s164_4.v ∧
                        ∃ s164_5 : Sl, W47.cell? (q5.add 5) = some s164_5.v ∧
                        ∃ s164_6 : Sl, W47.cell? (q5.add 6) = some s164_6.v ∧
                        ∃ x164_7 : Int, W47.cell? (q5.add 7) = some (.int .i64 x164_7) ∧
                        ∃ s164_8 : Sl, W47.cell? (q5.add 8) = some s164_8.v ∧
                        ∃ s164_9 : Sl, W47.cell? (q5.add 9) = some s164_9.v ∧
                        ∃ s164_10 : Sl, W47.cell? (q5.add 10) = some s164_10.v ∧
                        CallV Tryd.prog 8 #[(.agg #[s164_0.v, s164_1.v, s164_2.v, s164_3.v, s164_4.v, s164_5.v, s164_6.v, (.int .i64 x164_7), s164_8.v, s164_9.v, s164_10.v]), (.int .i64 x1)] W47 fun v W48 => ∃ s166_0 : Sl, ∃ x166_1 : Int, v = (.tuple #[s166_0.v, (.int .i64 x166_1)]) ∧
                        ∃ s170_0 : Sl, W48.cell? (q5.add 0) = some s170_0.v ∧
                        ∃ s170_1 : Sl, W48.cell? (q5.add 1) = some s170_1.v ∧
                        ∃ s170_2 : Sl, W48.cell? (q5.add 2) = some s170_2.v ∧
                        ∃ s170_3 : Sl, W48.cell? (q5.add 3) = some s170_3.v ∧
                        ∃ s170_4 : Sl, W48.cell? (q5.add 4) = some s170_4.v ∧
                        ∃ s170_5 : Sl, W48.cell? (q5.add 5) = some s170_5.v ∧
                        ∃ s170_6 : Sl, W48.cell? (q5.add 6) = some s170_6.v ∧
                        ∃ x170_7 : Int, W48.cell? (q5.add 7) = some (.int .i64 x170_7) ∧
                        ∃ s170_8 : Sl, W48.cell? (q5.add 8) = some s170_8.v ∧
                        ∃ s170_9 : Sl, W48.cell? (q5.add 9) = some s170_9.v ∧
                        ∃ s170_10 : Sl, W48.cell? (q5.add 10) = some s170_10.v ∧
                        CallV Tryd.prog 7 #[(.agg #[s170_0.v, s170_1.v, s170_2.v, s170_3.v, s170_4.v, s170_5.v, s170_6.v, (.int .i64 x170_7), s170_8.v, s170_9.v, s170_10.v]), (.int .i64 x1)] W48 fun v W49 => ∃ s172_0_0 : Sl, ∃ s172_0_1 : Sl, ∃ b172_1 : Bool, v = (.tuple #[(.agg #[s172_0_0.v, s172_0_1.v]), (.bool b172_1)]) ∧
                        Na W49 #[(.slice none 0 0), (.slice none 0 0)] 37 fun q22 W50 =>
                        stC W50 q22 [s172_0_0.v, s172_0_1.v] 0 fun W51 =>
                        ∃ s185 : Sl, ((((s158.len : Int) : Int) == (IntKind.wrap .i64 ((s71_0.len : Int) + 2))) = true → W51.cell? (q11.add 0) = some s185.v) ∧
                        ((((((s158.len : Int) : Int) == (IntKind.wrap .i64 ((s71_0.len : Int) + 2))) && (((s162.len : Int) : Int) == (IntKind.wrap .i64 ((s185.len : Int) + 3)))) && ((x166_1 : Int) == x77_1)) = true →
                          CallV Tryd.prog 9 #[s166_0.v, s77_0.v] W51 fun v W52 => ∃ b198 : Bool, v = (.bool b198) ∧
                          ∃ s201_0 : Sl, (b198 = true → W52.cell? (q13.add 0) = some s201_0.v) ∧
                        ∃ s201_1 : Sl, (b198 = true → W52.cell? (q13.add 1) = some s201_1.v) ∧
                        ∃ s202_0 : Sl, (b198 = true → W52.cell? (q22.add 0) = some s202_0.v) ∧
                        ∃ s202_1 : Sl, (b198 = true → W52.cell? (q22.add 1) = some s202_1.v) ∧
                        (b198 = true →
                          CallV Tryd.prog 11 #[(.agg #[s201_0.v, s201_1.v]), (.agg #[s202_0.v, s202_1.v])] W52 fun v W53 => ∃ b203 : Bool, v = (.bool b203) ∧
                          ∃ s206_0 : Sl, (b203 = true → W53.cell? (q2.add 0) = some s206_0.v) ∧
                        ∃ s206_1 : Sl, (b203 = true → W53.cell? (q2.add 1) = some s206_1.v) ∧
                        ∃ s206_2 : Sl, (b203 = true → W53.cell? (q2.add 2) = some s206_2.v) ∧
                        ∃ s206_3 : Sl, (b203 = true → W53.cell? (q2.add 3) = some s206_3.v) ∧
                        ∃ s206_4 : Sl, (b203 = true → W53.cell? (q2.add 4) = some s206_4.v) ∧
                        ∃ s206_5 : Sl, (b203 = true → W53.cell? (q2.add 5) = some s206_5.v) ∧
                        ∃ s206_6 : Sl, (b203 = true → W53.cell? (q2.add 6) = some s206_6.v) ∧
                        ∃ x206_7 : Int, (b203 = true → W53.cell? (q2.add 7) = some (.int .i64 x206_7)) ∧
                        ∃ s206_8 : Sl, (b203 = true → W53.cell? (q2.add 8) = some s206_8.v) ∧
                        ∃ s206_9 : Sl, (b203 = true → W53.cell? (q2.add 9) = some s206_9.v) ∧
                        ∃ s206_10 : Sl, (b203 = true → W53.cell? (q2.add 10) = some s206_10.v) ∧
                        ∃ s207_0 : Sl, (b203 = true → W53.cell? (q5.add 0) = some s207_0.v) ∧
                        ∃ s207_1 : Sl, (b203 = true → W53.cell? (q5.add 1) = some s207_1.v) ∧
                        ∃ s207_2 : Sl, (b203 = true → W53.cell? (q5.add 2) = some s207_2.v) ∧
                        ∃ s207_3 : Sl, (b203 = true → W53.cell? (q5.add 3) = some s207_3.v) ∧
                        ∃ s207_4 : Sl, (b203 = true → W53.cell? (q5.add 4) = some s207_4.v) ∧
                        ∃ s207_5 : Sl, (b203 = true → W53.cell? (q5.add 5) = some s207_5.v) ∧
                        ∃ s207_6 : Sl, (b203 = true → W53.cell? (q5.add 6) = some s207_6.v) ∧
                        ∃ x207_7 : Int, (b203 = true → W53.cell? (q5.add 7) = some (.int .i64 x207_7)) ∧
                        ∃ s207_8 : Sl, (b203 = true → W53.cell? (q5.add 8) = some s207_8.v) ∧
                        ∃ s207_9 : Sl, (b203 = true → W53.cell? (q5.add 9) = some s207_9.v) ∧
                        ∃ s207_10 : Sl, (b203 = true → W53.cell? (q5.add 10) = some s207_10.v) ∧
                        (b203 = true →
                          CallV Tryd.prog 10 #[(.agg #[s206_0.v, s206_1.v, s206_2.v, s206_3.v, s206_4.v, s206_5.v, s206_6.v, (.int .i64 x206_7), s206_8.v, s206_9.v, s206_10.v]), (.agg #[s207_0.v, s207_1.v, s207_2.v, s207_3.v, s207_4.v, s207_5.v, s207_6.v, (.int .i64 x207_7), s207_8.v, s207_9.v, s207_10.v])] W53 fun v W54 => ∃ b208 : Bool, v = (.bool b208) ∧
                          R (.returned (.bool b208)) W54) ∧
                        (b203 = !true →
                          R (.returned (.bool false)) W53)) ∧
                        (b198 = !true →
                          ∃ s206_0_1 : Sl, (false = true → W52.cell? (q2.add 0) = some s206_0_1.v) ∧
                        ∃ s206_1_1 : Sl, (false = true → W52.cell? (q2.add 1) = some s206_1_1.v) ∧
                        ∃ s206_2_1 : Sl, (false = true → W52.cell? (q2.add 2) = some s206_2_1.v) ∧
                        ∃ s206_3_1 : Sl, (false = true → W52.cell? (q2.add 3) = some s206_3_1.v) ∧
                        ∃ s206_4_1 : Sl, (false = true → W52.cell? (q2.add 4) = some s206_4_1.v) ∧
                        ∃ s206_5_1 : Sl, (false = true → W52.cell? (q2.add 5) = some s206_5_1.v) ∧
                        ∃ s206_6_1 : Sl, (false = true → W52.cell? (q2.add 6) = some s206_6_1.v) ∧
                        ∃ x206_7_1 : Int, (false = true → W52.cell? (q2.add 7) = some (.int .i64 x206_7_1)) ∧
                        ∃ s206_8_1 : Sl, (false = true → W52.cell? (q2.add 8) = some s206_8_1.v) ∧
                        ∃ s206_9_1 : Sl, (false = true → W52.cell? (q2.add 9) = some s206_9_1.v) ∧
                        ∃ s206_10_1 : Sl, (false = true → W52.cell? (q2.add 10) = some s206_10_1.v) ∧
                        ∃ s207_0_1 : Sl, (false = true → W52.cell? (q5.add 0) = some s207_0_1.v) ∧
                        ∃ s207_1_1 : Sl, (false = true → W52.cell? (q5.add 1) = some s207_1_1.v) ∧
                        ∃ s207_2_1 : Sl, (false = true → W52.cell? (q5.add 2) = some s207_2_1.v) ∧
                        ∃ s207_3_1 : Sl, (false = true → W52.cell? (q5.add 3) = some s207_3_1.v) ∧
                        ∃ s207_4_1 : Sl, (false = true → W52.cell? (q5.add 4) = some s207_4_1.v) ∧
                        ∃ s207_5_1 : Sl, (false = true → W52.cell? (q5.add 5) = some s207_5_1.v) ∧
                        ∃ s207_6_1 : Sl, (false = true → W52.cell? (q5.add 6) = some s207_6_1.v) ∧
                        ∃ x207_7_1 : Int, (false = true → W52.cell? (q5.add 7) = some (.int .i64 x207_7_1)) ∧
                        ∃ s207_8_1 : Sl, (false = true → W52.cell? (q5.add 8) = some s207_8_1.v) ∧
                        ∃ s207_9_1 : Sl, (false = true → W52.cell? (q5.add 9) = some s207_9_1.v) ∧
                        ∃ s207_10_1 : Sl, (false = true → W52.cell? (q5.add 10) = some s207_10_1.v) ∧
                        (false = true →
                          CallV Tryd.prog 10 #[(.agg #[s206_0_1.v, s206_1_1.v, s206_2_1.v, s206_3_1.v, s206_4_1.v, s206_5_1.v, s206_6_1.v, (.int .i64 x206_7_1), s206_8_1.v, s206_9_1.v, s206_10_1.v]), (.agg #[s207_0_1.v, s207_1_1.v, s207_2_1.v, s207_3_1.v, s207_4_1.v, s207_5_1.v, s207_6_1.v, (.int .i64 x207_7_1), s207_8_1.v, s207_9_1.v, s207_10_1.v])] W52 fun v W55 => ∃ b208_1 : Bool, v = (.bool b208_1) ∧
                          R (.returned (.bool b208_1)) W55) ∧
                        (false = !true →
                          R (.returned (.bool false)) W52))) ∧
                        ((((((s158.len : Int) : Int) == (IntKind.wrap .i64 ((s71_0.len : Int) + 2))) && (((s162.len : Int) : Int) == (IntKind.wrap .i64 ((s185.len : Int) + 3)))) && ((x166_1 : Int) == x77_1)) = !true →
                          ∃ s201_0_1 : Sl, (false = true → W51.cell? (q13.add 0) = some s201_0_1.v) ∧
                        ∃ s201_1_1 : Sl, (false = true → W51.cell? (q13.add 1) = some s201_1_1.v) ∧
                        ∃ s202_0_1 : Sl, (false = true → W51.cell? (q22.add 0) = some s202_0_1.v) ∧
                        ∃ s202_1_1 : Sl, (false = true → W51.cell? (q22.add 1) = some s202_1_1.v) ∧
                        (false = true →
                          CallV Tryd.prog 11 #[(.agg #[s201_0_1.v, s201_1_1.v]), (.agg #[s202_0_1.v, s202_1_1.v])] W51 fun v W56 => ∃ b203_1 : Bool, v = (.bool b203_1) ∧
                          ∃ s206_0_2 : Sl, (b203_1 = true → W56.cell? (q2.add 0) = some s206_0_2.v) ∧
                        ∃ s206_1_2 : Sl, (b203_1 = true → W56.cell? (q2.add 1) = some s206_1_2.v) ∧
                        ∃ s206_2_2 : Sl, (b203_1 = true → W56.cell? (q2.add 2) = some s206_2_2.v) ∧
                        ∃ s206_3_2 : Sl, (b203_1 = true → W56.cell? (q2.add 3) = some s206_3_2.v) ∧
                        ∃ s206_4_2 : Sl, (b203_1 = true → W56.cell? (q2.add 4) = some s206_4_2.v) ∧
                        ∃ s206_5_2 : Sl, (b203_1 = true → W56.cell? (q2.add 5) = some s206_5_2.v) ∧
                        ∃ s206_6_2 : Sl, (b203_1 = true → W56.cell? (q2.add 6) = some s206_6_2.v) ∧
                        ∃ x206_7_2 : Int, (b203_1 = true → W56.cell? (q2.add 7) = some (.int .i64 x206_7_2)) ∧
                        ∃ s206_8_2 : Sl, (b203_1 = true → W56.cell? (q2.add 8) = some s206_8_2.v) ∧
                        ∃ s206_9_2 : Sl, (b203_1 = true → W56.cell? (q2.add 9) = some s206_9_2.v) ∧
                        ∃ s206_10_2 : Sl, (b203_1 = true → W56.cell? (q2.add 10) = some s206_10_2.v) ∧
                        ∃ s207_0_2 : Sl, (b203_1 = true → W56.cell? (q5.add 0) = some s207_0_2.v) ∧
                        ∃ s207_1_2 : Sl, (b203_1 = true → W56.cell? (q5.add 1) = some s207_1_2.v) ∧
                        ∃ s207_2_2 : Sl, (b203_1 = true → W56.cell? (q5.add 2) = some s207_2_2.v) ∧
                        ∃ s207_3_2 : Sl, (b203_1 = true → W56.cell? (q5.add 3) = some s207_3_2.v) ∧
                        ∃ s207_4_2 : Sl, (b203_1 = true → W56.cell? (q5.add 4) = some s207_4_2.v) ∧
                        ∃ s207_5_2 : Sl, (b203_1 = true → W56.cell? (q5.add 5) = some s207_5_2.v) ∧
                        ∃ s207_6_2 : Sl, (b203_1 = true → W56.cell? (q5.add 6) = some s207_6_2.v) ∧
                        ∃ x207_7_2 : Int, (b203_1 = true → W56.cell? (q5.add 7) = some (.int .i64 x207_7_2)) ∧
                        ∃ s207_8_2 : Sl, (b203_1 = true → W56.cell? (q5.add 8) = some s207_8_2.v) ∧
                        ∃ s207_9_2 : Sl, (b203_1 = true → W56.cell? (q5.add 9) = some s207_9_2.v) ∧
                        ∃ s207_10_2 : Sl, (b203_1 = true → W56.cell? (q5.add 10) = some s207_10_2.v) ∧
                        (b203_1 = true →
                          CallV Tryd.prog 10 #[(.agg #[s206_0_2.v, s206_1_2.v, s206_2_2.v, s206_3_2.v, s206_4_2.v, s206_5_2.v, s206_6_2.v, (.int .i64 x206_7_2), s206_8_2.v, s206_9_2.v, s206_10_2.v]), (.agg #[s207_0_2.v, s207_1_2.v, s207_2_2.v, s207_3_2.v, s207_4_2.v, s207_5_2.v, s207_6_2.v, (.int .i64 x207_7_2), s207_8_2.v, s207_9_2.v, s207_10_2.v])] W56 fun v W57 => ∃ b208_2 : Bool, v = (.bool b208_2) ∧
                          R (.returned (.bool b208_2)) W57) ∧
                        (b203_1 = !true →
                          R (.returned (.bool false)) W56)) ∧
                        (false = !true →
                          ∃ s206_0_3 : Sl, (false = true → W51.cell? (q2.add 0) = some s206_0_3.v) ∧
                        ∃ s206_1_3 : Sl, (false = true → W51.cell? (q2.add 1) = some s206_1_3.v) ∧
                        ∃ s206_2_3 : Sl, (false = true → W51.cell? (q2.add 2) = some s206_2_3.v) ∧
                        ∃ s206_3_3 : Sl, (false = true → W51.cell? (q2.add 3) = some s206_3_3.v) ∧
                        ∃ s206_4_3 : Sl, (false = true → W51.cell? (q2.add 4) = some s206_4_3.v) ∧
                        ∃ s206_5_3 : Sl, (false = true → W51.cell? (q2.add 5) = some s206_5_3.v) ∧
                        ∃ s206_6_3 : Sl, (false = true → W51.cell? (q2.add 6) = some s206_6_3.v) ∧
                        ∃ x206_7_3 : Int, (false = true → W51.cell? (q2.add 7) = some (.int .i64 x206_7_3)) ∧
                        ∃ s206_8_3 : Sl, (false = true → W51.cell? (q2.add 8) = some s206_8_3.v) ∧
                        ∃ s206_9_3 : Sl, (false = true → W51.cell? (q2.add 9) = some s206_9_3.v) ∧
                        ∃ s206_10_3 : Sl, (false = true → W51.cell? (q2.add 10) = some s206_10_3.v) ∧
                        ∃ s207_0_3 : Sl, (false = true → W51.cell? (q5.add 0) = some s207_0_3.v) ∧
                        ∃ s207_1_3 : Sl, (false = true → W51.cell? (q5.add 1) = some s207_1_3.v) ∧
                        ∃ s207_2_3 : Sl, (false = true → W51.cell? (q5.add 2) = some s207_2_3.v) ∧
                        ∃ s207_3_3 : Sl, (false = true → W51.cell? (q5.add 3) = some s207_3_3.v) ∧
                        ∃ s207_4_3 : Sl, (false = true → W51.cell? (q5.add 4) = some s207_4_3.v) ∧
                        ∃ s207_5_3 : Sl, (false = true → W51.cell? (q5.add 5) = some s207_5_3.v) ∧
                        ∃ s207_6_3 : Sl, (false = true → W51.cell? (q5.add 6) = some s207_6_3.v) ∧
                        ∃ x207_7_3 : Int, (false = true → W51.cell? (q5.add 7) = some (.int .i64 x207_7_3)) ∧
                        ∃ s207_8_3 : Sl, (false = true → W51.cell? (q5.add 8) = some s207_8_3.v) ∧
                        ∃ s207_9_3 : Sl, (false = true → W51.cell? (q5.add 9) = some s207_9_3.v) ∧
                        ∃ s207_10_3 : Sl, (false = true → W51.cell? (q5.add 10) = some s207_10_3.v) ∧
                        (false = true →
                          CallV Tryd.prog 10 #[(.agg #[s206_0_3.v, s206_1_3.v, s206_2_3.v, s206_3_3.v, s206_4_3.v, s206_5_3.v, s206_6_3.v, (.int .i64 x206_7_3), s206_8_3.v, s206_9_3.v, s206_10_3.v]), (.agg #[s207_0_3.v, s207_1_3.v, s207_2_3.v, s207_3_3.v, s207_4_3.v, s207_5_3.v, s207_6_3.v, (.int .i64 x207_7_3), s207_8_3.v, s207_9_3.v, s207_10_3.v])] W51 fun v W58 => ∃ b208_3 : Bool, v = (.bool b208_3) ∧
                          R (.returned (.bool b208_3)) W58) ∧
                        (false = !true →
                          R (.returned (.bool false)) W51))))) → L_3 x17 W42) →
                    L_3 0 W40)) → L_2 x16 W40) →
                L_2 0 W38)) → L_1 x15 W38) →
            L_1 0 W37) → J_1 W37) →
          ∀ J_2 : Bool → World → Prop, (∀ (b121 : Bool) W59, (
            Br b121
              (R (.returned (.bool false)) W59)
              (J_1 W59)) → J_2 b121 W59) →
          Dw W36 fun W60 =>
          ∃ S_1 : World → Prop, S_1 W60 ∧
          (((x71_1 : Int) != x77_1) = false →
            CallV Tryd.prog 9 #[s71_0.v, s77_0.v] W60 fun v W61 => ∃ b98 : Bool, v = (.bool b98) ∧
            S_1 W61 ∧
          ∃ s102_0 : Sl, ((!b98) = false → (∀ w, S_1 w → w.cell? (q2.add 0) = some s102_0.v)) ∧
          ∃ s102_1 : Sl, ((!b98) = false → (∀ w, S_1 w → w.cell? (q2.add 1) = some s102_1.v)) ∧
          ∃ s102_2 : Sl, ((!b98) = false → (∀ w, S_1 w → w.cell? (q2.add 2) = some s102_2.v)) ∧
          ∃ s102_3 : Sl, ((!b98) = false → (∀ w, S_1 w → w.cell? (q2.add 3) = some s102_3.v)) ∧
          ∃ s102_4 : Sl, ((!b98) = false → (∀ w, S_1 w → w.cell? (q2.add 4) = some s102_4.v)) ∧
          ∃ s102_5 : Sl, ((!b98) = false → (∀ w, S_1 w → w.cell? (q2.add 5) = some s102_5.v)) ∧
          ∃ s102_6 : Sl, ((!b98) = false → (∀ w, S_1 w → w.cell? (q2.add 6) = some s102_6.v)) ∧
          ∃ x102_7 : Int, ((!b98) = false → (∀ w, S_1 w → w.cell? (q2.add 7) = some (.int .i64 x102_7))) ∧
          ∃ s102_8 : Sl, ((!b98) = false → (∀ w, S_1 w → w.cell? (q2.add 8) = some s102_8.v)) ∧
          ∃ s102_9 : Sl, ((!b98) = false → (∀ w, S_1 w → w.cell? (q2.add 9) = some s102_9.v)) ∧
          ∃ s102_10 : Sl, ((!b98) = false → (∀ w, S_1 w → w.cell? (q2.add 10) = some s102_10.v)) ∧
          ∃ s103_0 : Sl, ((!b98) = false → (∀ w, S_1 w → w.cell? (q5.add 0) = some s103_0.v)) ∧
          ∃ s103_1 : Sl, ((!b98) = false → (∀ w, S_1 w → w.cell? (q5.add 1) = some s103_1.v)) ∧
          ∃ s103_2 : Sl, ((!b98) = false → (∀ w, S_1 w → w.cell? (q5.add 2) = some s103_2.v)) ∧
          ∃ s103_3 : Sl, ((!b98) = false → (∀ w, S_1 w → w.cell? (q5.add 3) = some s103_3.v)) ∧
          ∃ s103_4 : Sl, ((!b98) = false → (∀ w, S_1 w → w.cell? (q5.add 4) = some s103_4.v)) ∧
          ∃ s103_5 : Sl, ((!b98) = false → (∀ w, S_1 w → w.cell? (q5.add 5) = some s103_5.v)) ∧
          ∃ s103_6 : Sl, ((!b98) = false → (∀ w, S_1 w → w.cell? (q5.add 6) = some s103_6.v)) ∧
          ∃ x103_7 : Int, ((!b98) = false → (∀ w, S_1 w → w.cell? (q5.add 7) = some (.int .i64 x103_7))) ∧
          ∃ s103_8 : Sl, ((!b98) = false → (∀ w, S_1 w → w.cell? (q5.add 8) = some s103_8.v)) ∧
          ∃ s103_9 : Sl, ((!b98) = false → (∀ w, S_1 w → w.cell? (q5.add 9) = some s103_9.v)) ∧
          ∃ s103_10 : Sl, ((!b98) = false → (∀ w, S_1 w → w.cell? (q5.add 10) = some s103_10.v)) ∧
          ((!b98) = false →
            CallV Tryd.prog 10 #[(.agg #[s102_0.v, s102_1.v, s102_2.v, s102_3.v, s102_4.v, s102_5.v, s102_6.v, (.int .i64 x102_7), s102_8.v, s102_9.v, s102_10.v]), (.agg #[s103_0.v, s103_1.v, s103_2.v, s103_3.v, s103_4.v, s103_5.v, s103_6.v, (.int .i64 x103_7), s103_8.v, s103_9.v, s103_10.v])] W61 fun v W62 => ∃ b104 : Bool, v = (.bool b104) ∧
            S_1 W62 ∧
          ∃ s109 : Sl, ((!b104) = false → (∀ w, S_1 w → w.cell? (q5.add 2) = some s109.v)) ∧
          ∃ s111 : Sl, ((!b104) = false → (∀ w, S_1 w → w.cell? (q2.add 2) = some s111.v)) ∧
          ((!b104) = false → ((0 : Int) ≤ (IntKind.wrap .i64 ((s111.len : Int) + 1)) ∧ (IntKind.wrap .i64 ((s111.len : Int) + 1)) ≤ (s109.cap : Int))) ∧
          ∃ s116 : Sl, ((!b104) = false → (∀ w, S_1 w → w.cell? (q2.add 2) = some s116.v)) ∧
          ∃ q118 : Addr, ((!b104) = false → ((if s109.cap = 0 then s109.a else Option.map (fun a : Addr => a.add (0 * 1)) s109.a) = some q118 ∧ (0 : Int) ≤ (s116.len : Int) ∧ (s116.len : Int) < ((((IntKind.wrap .i64 ((s111.len : Int) + 1)) : Int).toNat - 0) : Int))) ∧
          ∃ x119 : Int, ((!b104) = false → (∀ w, S_1 w → w.cell? (q118.add (((s116.len : Int) : Int).toNat * 1)) = some (.int .i64 x119))) ∧
          J_2 ((!b104) || ((x119 : Int) != 91)) W62) ∧
          ((!b98) = !false →
            S_1 W61 ∧
          ∃ s109_1 : Sl, (true = false → (∀ w, S_1 w → w.cell? (q5.add 2) = some s109_1.v)) ∧
          ∃ s111_1 : Sl, (true = false → (∀ w, S_1 w → w.cell? (q2.add 2) = some s111_1.v)) ∧
          (true = false → ((0 : Int) ≤ (IntKind.wrap .i64 ((s111_1.len : Int) + 1)) ∧ (IntKind.wrap .i64 ((s111_1.len : Int) + 1)) ≤ (s109_1.cap : Int))) ∧
          ∃ s116_1 : Sl, (true = false → (∀ w, S_1 w → w.cell? (q2.add 2) = some s116_1.v)) ∧
          ∃ q118_1 : Addr, (true = false → ((if s109_1.cap = 0 then s109_1.a else Option.map (fun a : Addr => a.add (0 * 1)) s109_1.a) = some q118_1 ∧ (0 : Int) ≤ (s116_1.len : Int) ∧ (s116_1.len : Int) < ((((IntKind.wrap .i64 ((s111_1.len : Int) + 1)) : Int).toNat - 0) : Int))) ∧
          ∃ x119_1 : Int, (true = false → (∀ w, S_1 w → w.cell? (q118_1.add (((s116_1.len : Int) : Int).toNat * 1)) = some (.int .i64 x119_1))) ∧
          J_2 (true || ((x119_1 : Int) != 91)) W61)) ∧
          (((x71_1 : Int) != x77_1) = !false →
            S_1 W60 ∧
          ∃ s102_0_1 : Sl, (true = false → (∀ w, S_1 w → w.cell? (q2.add 0) = some s102_0_1.v)) ∧
          ∃ s102_1_1 : Sl, (true = false → (∀ w, S_1 w → w.cell? (q2.add 1) = some s102_1_1.v)) ∧
          ∃ s102_2_1 : Sl, (true = false → (∀ w, S_1 w → w.cell? (q2.add 2) = some s102_2_1.v)) ∧
          ∃ s102_3_1 : Sl, (true = false → (∀ w, S_1 w → w.cell? (q2.add 3) = some s102_3_1.v)) ∧
          ∃ s102_4_1 : Sl, (true = false → (∀ w, S_1 w → w.cell? (q2.add 4) = some s102_4_1.v)) ∧
          ∃ s102_5_1 : Sl, (true = false → (∀ w, S_1 w → w.cell? (q2.add 5) = some s102_5_1.v)) ∧
          ∃ s102_6_1 : Sl, (true = false → (∀ w, S_1 w → w.cell? (q2.add 6) = some s102_6_1.v)) ∧
          ∃ x102_7_1 : Int, (true = false → (∀ w, S_1 w → w.cell? (q2.add 7) = some (.int .i64 x102_7_1))) ∧
          ∃ s102_8_1 : Sl, (true = false → (∀ w, S_1 w → w.cell? (q2.add 8) = some s102_8_1.v)) ∧
          ∃ s102_9_1 : Sl, (true = false → (∀ w, S_1 w → w.cell? (q2.add 9) = some s102_9_1.v)) ∧
          ∃ s102_10_1 : Sl, (true = false → (∀ w, S_1 w → w.cell? (q2.add 10) = some s102_10_1.v)) ∧
          ∃ s103_0_1 : Sl, (true = false → (∀ w, S_1 w → w.cell? (q5.add 0) = some s103_0_1.v)) ∧
          ∃ s103_1_1 : Sl, (true = false → (∀ w, S_1 w → w.cell? (q5.add 1) = some s103_1_1.v)) ∧
          ∃ s103_2_1 : Sl, (true = false → (∀ w, S_1 w → w.cell? (q5.add 2) = some s103_2_1.v)) ∧
          ∃ s103_3_1 : Sl, (true = false → (∀ w, S_1 w → w.cell? (q5.add 3) = some s103_3_1.v)) ∧
          ∃ s103_4_1 : Sl, (true = false → (∀ w, S_1 w → w.cell? (q5.add 4) = some s103_4_1.v)) ∧
          ∃ s103_5_1 : Sl, (true = false → (∀ w, S_1 w → w.cell? (q5.add 5) = some s103_5_1.v)) ∧
          ∃ s103_6_1 : Sl, (true = false → (∀ w, S_1 w → w.cell? (q5.add 6) = some s103_6_1.v)) ∧
          ∃ x103_7_1 : Int, (true = false → (∀ w, S_1 w → w.cell? (q5.add 7) = some (.int .i64 x103_7_1))) ∧
          ∃ s103_8_1 : Sl, (true = false → (∀ w, S_1 w → w.cell? (q5.add 8) = some s103_8_1.v)) ∧
          ∃ s103_9_1 : Sl, (true = false → (∀ w, S_1 w → w.cell? (q5.add 9) = some s103_9_1.v)) ∧
          ∃ s103_10_1 : Sl, (true = false → (∀ w, S_1 w → w.cell? (q5.add 10) = some s103_10_1.v)) ∧
          (true = false →
            CallV Tryd.prog 10 #[(.agg #[s102_0_1.v, s102_1_1.v, s102_2_1.v, s102_3_1.v, s102_4_1.v, s102_5_1.v, s102_6_1.v, (.int .i64 x102_7_1), s102_8_1.v, s102_9_1.v, s102_10_1.v]), (.agg #[s103_0_1.v, s103_1_1.v, s103_2_1.v, s103_3_1.v, s103_4_1.v, s103_5_1.v, s103_6_1.v, (.int .i64 x103_7_1), s103_8_1.v, s103_9_1.v, s103_10_1.v])] W60 fun v W63 => ∃ b104_1 : Bool, v = (.bool b104_1) ∧
            S_1 W63 ∧
          ∃ s109_2 : Sl, ((!b104_1) = false → (∀ w, S_1 w → w.cell? (q5.add 2) = some s109_2.v)) ∧
          ∃ s111_2 : Sl, ((!b104_1) = false → (∀ w, S_1 w → w.cell? (q2.add 2) = some s111_2.v)) ∧
          ((!b104_1) = false → ((0 : Int) ≤ (IntKind.wrap .i64 ((s111_2.len : Int) + 1)) ∧ (IntKind.wrap .i64 ((s111_2.len : Int) + 1)) ≤ (s109_2.cap : Int))) ∧
          ∃ s116_2 : Sl, ((!b104_1) = false → (∀ w, S_1 w → w.cell? (q2.add 2) = some s116_2.v)) ∧
          ∃ q118_2 : Addr, ((!b104_1) = false → ((if s109_2.cap = 0 then s109_2.a else Option.map (fun a : Addr => a.add (0 * 1)) s109_2.a) = some q118_2 ∧ (0 : Int) ≤ (s116_2.len : Int) ∧ (s116_2.len : Int) < ((((IntKind.wrap .i64 ((s111_2.len : Int) + 1)) : Int).toNat - 0) : Int))) ∧
          ∃ x119_2 : Int, ((!b104_1) = false → (∀ w, S_1 w → w.cell? (q118_2.add (((s116_2.len : Int) : Int).toNat * 1)) = some (.int .i64 x119_2))) ∧
          J_2 ((!b104_1) || ((x119_2 : Int) != 91)) W63) ∧
          (true = !false →
            S_1 W60 ∧
          ∃ s109_3 : Sl, (true = false → (∀ w, S_1 w → w.cell? (q5.add 2) = some s109_3.v)) ∧
          ∃ s111_3 : Sl, (true = false → (∀ w, S_1 w → w.cell? (q2.add 2) = some s111_3.v)) ∧
          (true = false → ((0 : Int) ≤ (IntKind.wrap .i64 ((s111_3.len : Int) + 1)) ∧ (IntKind.wrap .i64 ((s111_3.len : Int) + 1)) ≤ (s109_3.cap : Int))) ∧
          ∃ s116_3 : Sl, (true = false → (∀ w, S_1 w → w.cell? (q2.add 2) = some s116_3.v)) ∧
          ∃ q118_3 : Addr, (true = false → ((if s109_3.cap = 0 then s109_3.a else Option.map (fun a : Addr => a.add (0 * 1)) s109_3.a) = some q118_3 ∧ (0 : Int) ≤ (s116_3.len : Int) ∧ (s116_3.len : Int) < ((((IntKind.wrap .i64 ((s111_3.len : Int) + 1)) : Int).toNat - 0) : Int))) ∧
          ∃ x119_3 : Int, (true = false → (∀ w, S_1 w → w.cell? (q118_3.add (((s116_3.len : Int) : Int).toNat * 1)) = some (.int .i64 x119_3))) ∧
          J_2 (true || ((x119_3 : Int) != 91)) W60)))) → L x6 W7) →
      L 0 W6) → J W5) →
    Dw W4 fun W64 =>
    ∃ S_2 : World → Prop, S_2 W64 ∧
    ∃ s29 : Sl, (∀ w, S_2 w → w.cell? (q2.add 2) = some s29.v) ∧
    ∃ s34 : Sl, (∀ w, S_2 w → w.cell? (q2.add 2) = some s34.v) ∧
    (Na W64 #[] 3 fun q27 W65 =>
    S_2 W65 ∧
    (RunV Tryd.prog (Builtin.append_ #[24, 24] 24 #[(.slice (some q27) 0 0), s29.v]) W65 fun v W66 => ∃ s30 : Sl, v = s30.v ∧
    S_2 W66 ∧
    Na W66 #[(.int .i64 91)] 3 fun q31 W67 =>
    S_2 W67 ∧
    RunV Tryd.prog (Builtin.append_ #[24, 24] 24 #[s30.v, (.slice (some q31) 1 1)]) W67 fun v W68 => ∃ s32 : Sl, v = s32.v ∧
    S_2 W68 ∧
    ((0 : Int) ≤ (s34.len : Int) ∧ (s34.len : Int) ≤ (s32.cap : Int)) ∧
    stC W68 (q5.add 2) [(.slice (if s32.cap = 0 then s32.a else Option.map (fun a : Addr => a.add (0 * 1)) s32.a) (((s34.len : Int) : Int).toNat - 0) (s32.cap - 0))] 0 fun W69 =>
    J W69) ∧
    (Na W65 #[(.int .i64 91)] 3 fun q31_1 W70 =>
    S_2 W70 ∧
    RunV Tryd.prog (Builtin.append_ #[24, 24] 24 #[(.slice (some q27) 0 0), s29.v]) W70 fun v W71 => ∃ s30_1 : Sl, v = s30_1.v ∧
    S_2 W71 ∧
    RunV Tryd.prog (Builtin.append_ #[24, 24] 24 #[s30_1.v, (.slice (some q31_1) 1 1)]) W71 fun v W72 => ∃ s32_1 : Sl, v = s32_1.v ∧
    S_2 W72 ∧
    ((0 : Int) ≤ (s34.len : Int) ∧ (s34.len : Int) ≤ (s32_1.cap : Int)) ∧
    stC W72 (q5.add 2) [(.slice (if s32_1.cap = 0 then s32_1.a else Option.map (fun a : Addr => a.add (0 * 1)) s32_1.a) (((s34.len : Int) : Int).toNat - 0) (s32_1.cap - 0))] 0 fun W73 =>
    J W73)) ∧
    (Na W64 #[(.int .i64 91)] 3 fun q31_2 W74 =>
    S_2 W74 ∧
    Na W74 #[] 3 fun q27_1 W75 =>
    S_2 W75 ∧
    RunV Tryd.prog (Builtin.append_ #[24, 24] 24 #[(.slice (some q27_1) 0 0), s29.v]) W75 fun v W76 => ∃ s30_2 : Sl, v = s30_2.v ∧
    S_2 W76 ∧
    RunV Tryd.prog (Builtin.append_ #[24, 24] 24 #[s30_2.v, (.slice (some q31_2) 1 1)]) W76 fun v W77 => ∃ s32_2 : Sl, v = s32_2.v ∧
    S_2 W77 ∧
    ((0 : Int) ≤ (s34.len : Int) ∧ (s34.len : Int) ≤ (s32_2.cap : Int)) ∧
    stC W77 (q5.add 2) [(.slice (if s32_2.cap = 0 then s32_2.a else Option.map (fun a : Addr => a.add (0 * 1)) s32_2.a) (((s34.len : Int) : Int).toNat - 0) (s32_2.cap - 0))] 0 fun W78 =>
    J W78))
theorem of_plaitlaw15_ValidKeeps (s0_0 : Sl) (s0_1 : Sl) (s0_2 : Sl) (s0_3 : Sl) (s0_4 : Sl) (s0_5 : Sl) (s0_6 : Sl) (x0_7 : Int) (s0_8 : Sl) (s0_9 : Sl) (s0_10 : Sl) (x1 : Int) (W : World) (R : Ending → World → Prop) (h : V_plaitlaw15_ValidKeeps s0_0 s0_1 s0_2 s0_3 s0_4 s0_5 s0_6 x0_7 s0_8 s0_9 s0_10 x1 W R) : Calls Tryd.prog 4 #[(.agg #[s0_0.v, s0_1.v, s0_2.v, s0_3.v, s0_4.v, s0_5.v, s0_6.v, (.int .i64 x0_7), s0_8.v, s0_9.v, s0_10.v]), (.int .i64 x1)] W R :=
  calls_of_vcF Tryd.mix Tryd.func4 (an := (.seq .nil (.seq (.seq .nil (.cond (.seq .nil .nil) .nil)) (.seq .nil (.jn [] [27, 28, 29, 30, 31, 32, 33, 34, 35, 36, 37] .nil (.seq .nil (.seq (.seq .nil (.blk (.lp [(6, .int .i64)] [39, 40, 41, 42, 43, 44, 45, 46, 47, 48, 49, 50, 51, 52, 53, 54, 55, 56, 57, 58, 59, 60, 61, 62, 63, 64, 65, 66, 67] (.seq (.seq .nil (.cond .nil .nil)) (.seq (.blk .nil) .nil))))) (.seq .nil (.seq .nil (.seq .nil (.seq .nil (.jn [] [4, 92, 93, 94, 95, 96, 97, 98, 99, 100, 101, 102, 103, 104, 105, 106, 107, 108, 109, 110, 111, 112, 113, 114, 115, 116, 117, 118, 119, 120, 121] (.jn [(121, .bool)] [92, 93, 94, 95, 96, 97, 98, 99, 100, 101, 102, 103, 104, 105, 106, 107, 108, 109, 110, 111, 112, 113, 114, 115, 116, 117, 118, 119, 120] .nil (.cond (.seq .nil .nil) .nil)) (.seq (.seq .nil (.blk (.lp [(15, .int .i64)] [122, 123, 124, 125, 126, 127, 128, 129, 130, 131] (.seq (.seq .nil (.cond .nil .nil)) (.seq (.blk .nil) .nil))))) (.seq (.seq .nil (.blk (.lp [(16, .int .i64)] [132, 133, 134, 135, 136, 137, 138, 139, 140, 141, 142] (.seq (.seq .nil (.cond .nil .nil)) (.seq (.blk .nil) .nil))))) (.seq (.seq .nil (.blk (.lp [(17, .int .i64)] [143, 144, 145, 146, 147, 148, 149, 150, 151, 152, 153] (.seq (.seq .nil (.cond .nil .nil)) (.seq (.blk .nil) .nil))))) (.seq .nil (.seq .nil (.seq .nil (.seq .nil (.seq .nil .nil)))))))))))))))))))) (args := [(.agg #[s0_0.v, s0_1.v, s0_2.v, s0_3.v, s0_4.v, s0_5.v, s0_6.v, (.int .i64 x0_7), s0_8.v, s0_9.v, s0_10.v]), (.int .i64 x1)]) (Eq.mpr (by kernel_rfl : vcF Tryd.prog Tryd.f4 (.seq .nil (.seq (.seq .nil (.cond (.seq .nil .nil) .nil)) (.seq .nil (.jn [] [27, 28, 29, 30, 31, 32, 33, 34, 35, 36, 37] .nil (.seq .nil (.seq (.seq .nil (.blk (.lp [(6, .int .i64)] [39, 40, 41, 42, 43, 44, 45, 46, 47, 48, 49, 50, 51, 52, 53, 54, 55, 56, 57, 58, 59, 60, 61, 62, 63, 64, 65, 66, 67] (.seq (.seq .nil (.cond .nil .nil)) (.seq (.blk .nil) .nil))))) (.seq .nil (.seq .nil (.seq .nil (.seq .nil (.jn [] [4, 92, 93, 94, 95, 96, 97, 98, 99, 100, 101, 102, 103, 104, 105, 106, 107, 108, 109, 110, 111, 112, 113, 114, 115, 116, 117, 118, 119, 120, 121] (.jn [(121, .bool)] [92, 93, 94, 95, 96, 97, 98, 99, 100, 101, 102, 103, 104, 105, 106, 107, 108, 109, 110, 111, 112, 113, 114, 115, 116, 117, 118, 119, 120] .nil (.cond (.seq .nil .nil) .nil)) (.seq (.seq .nil (.blk (.lp [(15, .int .i64)] [122, 123, 124, 125, 126, 127, 128, 129, 130, 131] (.seq (.seq .nil (.cond .nil .nil)) (.seq (.blk .nil) .nil))))) (.seq (.seq .nil (.blk (.lp [(16, .int .i64)] [132, 133, 134, 135, 136, 137, 138, 139, 140, 141, 142] (.seq (.seq .nil (.cond .nil .nil)) (.seq (.blk .nil) .nil))))) (.seq (.seq .nil (.blk (.lp [(17, .int .i64)] [143, 144, 145, 146, 147, 148, 149, 150, 151, 152, 153] (.seq (.seq .nil (.cond .nil .nil)) (.seq (.blk .nil) .nil))))) (.seq .nil (.seq .nil (.seq .nil (.seq .nil (.seq .nil .nil))))))))))))))))))) [(.agg #[s0_0.v, s0_1.v, s0_2.v, s0_3.v, s0_4.v, s0_5.v, s0_6.v, (.int .i64 x0_7), s0_8.v, s0_9.v, s0_10.v]), (.int .i64 x1)] W R = V_plaitlaw15_ValidKeeps s0_0 s0_1 s0_2 s0_3 s0_4 s0_5 s0_6 x0_7 s0_8 s0_9 s0_10 x1 W R) h)

/-- plait/plaitlaw15.awake -/
def V_plaitlaw15_awake  (W : World) (R : Ending → World → Prop) : Prop :=
  Na W #[(.int .i64 127)] 3 fun q6 W1 =>
  Na W1 #[(.int .i64 65), (.int .i64 0), (.int .i64 0), (.int .u64 1), (.int .u64 0), (.slice none 0 0)] 40 fun q8 W2 =>
  CallV Tryd.prog 12 #[(.slice (some q6) 1 1), (.slice (some q8) 1 1)] W2 fun v W3 => ∃ s9_0 : Sl, ∃ s9_1 : Sl, ∃ s9_2 : Sl, ∃ s9_3 : Sl, ∃ s9_4 : Sl, ∃ s9_5 : Sl, ∃ s9_6 : Sl, ∃ x9_7 : Int, ∃ s9_8 : Sl, ∃ s9_9 : Sl, ∃ s9_10 : Sl, v = (.agg #[s9_0.v, s9_1.v, s9_2.v, s9_3.v, s9_4.v, s9_5.v, s9_6.v, (.int .i64 x9_7), s9_8.v, s9_9.v, s9_10.v]) ∧
  Na W3 #[(.slice none 0 0), (.slice none 0 0), (.slice none 0 0), (.slice none 0 0), (.slice none 0 0), (.slice none 0 0), (.slice none 0 0), (.int .i64 0), (.slice none 0 0), (.slice none 0 0), (.slice none 0 0)] 32 fun q1 W4 =>
  stC W4 q1 [s9_0.v, s9_1.v, s9_2.v, s9_3.v, s9_4.v, s9_5.v, s9_6.v, (.int .i64 x9_7), s9_8.v, s9_9.v, s9_10.v] 0 fun W5 =>
  ∃ s11_0 : Sl, W5.cell? (q1.add 0) = some s11_0.v ∧
  ∃ s11_1 : Sl, W5.cell? (q1.add 1) = some s11_1.v ∧
  ∃ s11_2 : Sl, W5.cell? (q1.add 2) = some s11_2.v ∧
  ∃ s11_3 : Sl, W5.cell? (q1.add 3) = some s11_3.v ∧
  ∃ s11_4 : Sl, W5.cell? (q1.add 4) = some s11_4.v ∧
  ∃ s11_5 : Sl, W5.cell? (q1.add 5) = some s11_5.v ∧
  ∃ s11_6 : Sl, W5.cell? (q1.add 6) = some s11_6.v ∧
  ∃ x11_7 : Int, W5.cell? (q1.add 7) = some (.int .i64 x11_7) ∧
  ∃ s11_8 : Sl, W5.cell? (q1.add 8) = some s11_8.v ∧
  ∃ s11_9 : Sl, W5.cell? (q1.add 9) = some s11_9.v ∧
  ∃ s11_10 : Sl, W5.cell? (q1.add 10) = some s11_10.v ∧
  CallV Tryd.prog 8 #[(.agg #[s11_0.v, s11_1.v, s11_2.v, s11_3.v, s11_4.v, s11_5.v, s11_6.v, (.int .i64 x11_7), s11_8.v, s11_9.v, s11_10.v]), (.int .i64 0)] W5 fun v W6 => ∃ s12_0 : Sl, ∃ x12_1 : Int, v = (.tuple #[s12_0.v, (.int .i64 x12_1)]) ∧
  ∃ s16_0 : Sl, W6.cell? (q1.add 0) = some s16_0.v ∧
  ∃ s16_1 : Sl, W6.cell? (q1.add 1) = some s16_1.v ∧
  ∃ s16_2 : Sl, W6.cell? (q1.add 2) = some s16_2.v ∧
  ∃ s16_3 : Sl, W6.cell? (q1.add 3) = some s16_3.v ∧
  ∃ s16_4 : Sl, W6.cell? (q1.add 4) = some s16_4.v ∧
  ∃ s16_5 : Sl, W6.cell? (q1.add 5) = some s16_5.v ∧
  ∃ s16_6 : Sl, W6.cell? (q1.add 6) = some s16_6.v ∧
  ∃ x16_7 : Int, W6.cell? (q1.add 7) = some (.int .i64 x16_7) ∧
  ∃ s16_8 : Sl, W6.cell? (q1.add 8) = some s16_8.v ∧
  ∃ s16_9 : Sl, W6.cell? (q1.add 9) = some s16_9.v ∧
  ∃ s16_10 : Sl, W6.cell? (q1.add 10) = some s16_10.v ∧
  CallV Tryd.prog 7 #[(.agg #[s16_0.v, s16_1.v, s16_2.v, s16_3.v, s16_4.v, s16_5.v, s16_6.v, (.int .i64 x16_7), s16_8.v, s16_9.v, s16_10.v]), (.int .i64 0)] W6 fun v W7 => ∃ s17_0_0 : Sl, ∃ s17_0_1 : Sl, ∃ b17_1 : Bool, v = (.tuple #[(.agg #[s17_0_0.v, s17_0_1.v]), (.bool b17_1)]) ∧
  Na W7 #[(.slice none 0 0), (.slice none 0 0)] 37 fun q4 W8 =>
  stC W8 q4 [s17_0_0.v, s17_0_1.v] 0 fun W9 =>
  ∃ s20_0 : Sl, W9.cell? (q1.add 0) = some s20_0.v ∧
  ∃ s20_1 : Sl, W9.cell? (q1.add 1) = some s20_1.v ∧
  ∃ s20_2 : Sl, W9.cell? (q1.add 2) = some s20_2.v ∧
  ∃ s20_3 : Sl, W9.cell? (q1.add 3) = some s20_3.v ∧
  ∃ s20_4 : Sl, W9.cell? (q1.add 4) = some s20_4.v ∧
  ∃ s20_5 : Sl, W9.cell? (q1.add 5) = some s20_5.v ∧
  ∃ s20_6 : Sl, W9.cell? (q1.add 6) = some s20_6.v ∧
  ∃ x20_7 : Int, W9.cell? (q1.add 7) = some (.int .i64 x20_7) ∧
  ∃ s20_8 : Sl, W9.cell? (q1.add 8) = some s20_8.v ∧
  ∃ s20_9 : Sl, W9.cell? (q1.add 9) = some s20_9.v ∧
  ∃ s20_10 : Sl, W9.cell? (q1.add 10) = some s20_10.v ∧
  CallV Tryd.prog 6 #[(.agg #[s20_0.v, s20_1.v, s20_2.v, s20_3.v, s20_4.v, s20_5.v, s20_6.v, (.int .i64 x20_7), s20_8.v, s20_9.v, s20_10.v])] W9 fun v W10 => ∃ x21 : Int, v = (.int .i64 x21) ∧
  (((x21 : Int) == 0) = true →
    Na W10 #[(.int .i64 127)] 3 fun q24 W11 =>
    CallV Tryd.prog 12 #[(.slice (some q24) 1 1), (.slice none 0 0)] W11 fun v W12 => ∃ s25_0 : Sl, ∃ s25_1 : Sl, ∃ s25_2 : Sl, ∃ s25_3 : Sl, ∃ s25_4 : Sl, ∃ s25_5 : Sl, ∃ s25_6 : Sl, ∃ x25_7 : Int, ∃ s25_8 : Sl, ∃ s25_9 : Sl, ∃ s25_10 : Sl, v = (.agg #[s25_0.v, s25_1.v, s25_2.v, s25_3.v, s25_4.v, s25_5.v, s25_6.v, (.int .i64 x25_7), s25_8.v, s25_9.v, s25_10.v]) ∧
  CallV Tryd.prog 6 #[(.agg #[s25_0.v, s25_1.v, s25_2.v, s25_3.v, s25_4.v, s25_5.v, s25_6.v, (.int .i64 x25_7), s25_8.v, s25_9.v, s25_10.v])] W12 fun v W13 => ∃ x26 : Int, v = (.int .i64 x26) ∧
  ∃ q40 : Addr, (((((x26 : Int) == 12) && ((x12_1 : Int) == 0)) && (((s12_0.len : Int) : Int) == 2)) = true → (s12_0.a = some q40 ∧ (0 : Int) ≤ 1 ∧ 1 < (s12_0.len : Int))) ∧
  ∃ b41_0 : Bool, (((((x26 : Int) == 12) && ((x12_1 : Int) == 0)) && (((s12_0.len : Int) : Int) == 2)) = true → W13.cell? ((q40.add ((1 : Int).toNat * 3)).add 0) = some (.bool b41_0)) ∧
  ∃ x41_1 : Int, (((((x26 : Int) == 12) && ((x12_1 : Int) == 0)) && (((s12_0.len : Int) : Int) == 2)) = true → W13.cell? ((q40.add ((1 : Int).toNat * 3)).add 1) = some (.int .i64 x41_1)) ∧
  ∃ x41_2 : Int, (((((x26 : Int) == 12) && ((x12_1 : Int) == 0)) && (((s12_0.len : Int) : Int) == 2)) = true → W13.cell? ((q40.add ((1 : Int).toNat * 3)).add 2) = some (.int .i64 x41_2)) ∧
  (((((x26 : Int) == 12) && ((x12_1 : Int) == 0)) && (((s12_0.len : Int) : Int) == 2)) = true →
    RunV Tryd.prog (do eqGuard .eql 56 (.tmp 41) (.tmp 42) (.agg #[(.bool b41_0), (.int .i64 x41_1), (.int .i64 x41_2)]) (.agg #[(.bool true), (.int .i64 1), (.int .i64 0)]); binOp .eql 56 (.agg #[(.bool b41_0), (.int .i64 x41_1), (.int .i64 x41_2)]) (.agg #[(.bool true), (.int .i64 1), (.int .i64 0)])) W13 fun v W14 => asB v fun b43 =>
    ∃ s50 : Sl, ((b43 && b17_1) = true → W14.cell? (q4.add 1) = some s50.v) ∧
  (((b43 && b17_1) && (((s50.len : Int) : Int) == 1)) = true →
    CallV Tryd.prog 6 #[(.agg #[(.slice none 0 0), (.slice none 0 0), (.slice none 0 0), (.slice none 0 0), (.slice none 0 0), (.slice none 0 0), (.slice none 0 0), (.int .i64 0), (.slice none 0 0), (.slice none 0 0), (.slice none 0 0)])] W14 fun v W15 => ∃ x56 : Int, v = (.int .i64 x56) ∧
    R (.returned (.bool ((x56 : Int) == 12))) W15) ∧
  (((b43 && b17_1) && (((s50.len : Int) : Int) == 1)) = !true →
    R (.returned (.bool false)) W14)) ∧
  (((((x26 : Int) == 12) && ((x12_1 : Int) == 0)) && (((s12_0.len : Int) : Int) == 2)) = !true →
    ∃ s50_1 : Sl, ((false && b17_1) = true → W13.cell? (q4.add 1) = some s50_1.v) ∧
  (((false && b17_1) && (((s50_1.len : Int) : Int) == 1)) = true →
    CallV Tryd.prog 6 #[(.agg #[(.slice none 0 0), (.slice none 0 0), (.slice none 0 0), (.slice none 0 0), (.slice none 0 0), (.slice none 0 0), (.slice none 0 0), (.int .i64 0), (.slice none 0 0), (.slice none 0 0), (.slice none 0 0)])] W13 fun v W16 => ∃ x56_1 : Int, v = (.int .i64 x56_1) ∧
    R (.returned (.bool ((x56_1 : Int) == 12))) W16) ∧
  (((false && b17_1) && (((s50_1.len : Int) : Int) == 1)) = !true →
    R (.returned (.bool false)) W13))) ∧
  (((x21 : Int) == 0) = !true →
    ∃ q40_1 : Addr, (((false && ((x12_1 : Int) == 0)) && (((s12_0.len : Int) : Int) == 2)) = true → (s12_0.a = some q40_1 ∧ (0 : Int) ≤ 1 ∧ 1 < (s12_0.len : Int))) ∧
  ∃ b41_0_1 : Bool, (((false && ((x12_1 : Int) == 0)) && (((s12_0.len : Int) : Int) == 2)) = true → W10.cell? ((q40_1.add ((1 : Int).toNat * 3)).add 0) = some (.bool b41_0_1)) ∧
  ∃ x41_1_1 : Int, (((false && ((x12_1 : Int) == 0)) && (((s12_0.len : Int) : Int) == 2)) = true → W10.cell? ((q40_1.add ((1 : Int).toNat * 3)).add 1) = some (.int .i64 x41_1_1)) ∧
  ∃ x41_2_1 : Int, (((false && ((x12_1 : Int) == 0)) && (((s12_0.len : Int) : Int) == 2)) = true → W10.cell? ((q40_1.add ((1 : Int).toNat * 3)).add 2) = some (.int .i64 x41_2_1)) ∧
  (((false && ((x12_1 : Int) == 0)) && (((s12_0.len : Int) : Int) == 2)) = true →
    RunV Tryd.prog (do eqGuard .eql 56 (.tmp 41) (.tmp 42) (.agg #[(.bool b41_0_1), (.int .i64 x41_1_1), (.int .i64 x41_2_1)]) (.agg #[(.bool true), (.int .i64 1), (.int .i64 0)]); binOp .eql 56 (.agg #[(.bool b41_0_1), (.int .i64 x41_1_1), (.int .i64 x41_2_1)]) (.agg #[(.bool true), (.int .i64 1), (.int .i64 0)])) W10 fun v W17 => asB v fun b43_1 =>
    ∃ s50_2 : Sl, ((b43_1 && b17_1) = true → W17.cell? (q4.add 1) = some s50_2.v) ∧
  (((b43_1 && b17_1) && (((s50_2.len : Int) : Int) == 1)) = true →
    CallV Tryd.prog 6 #[(.agg #[(.slice none 0 0), (.slice none 0 0), (.slice none 0 0), (.slice none 0 0), (.slice none 0 0), (.slice none 0 0), (.slice none 0 0), (.int .i64 0), (.slice none 0 0), (.slice none 0 0), (.slice none 0 0)])] W17 fun v W18 => ∃ x56_2 : Int, v = (.int .i64 x56_2) ∧
    R (.returned (.bool ((x56_2 : Int) == 12))) W18) ∧
  (((b43_1 && b17_1) && (((s50_2.len : Int) : Int) == 1)) = !true →
    R (.returned (.bool false)) W17)) ∧
  (((false && ((x12_1 : Int) == 0)) && (((s12_0.len : Int) : Int) == 2)) = !true →
    ∃ s50_3 : Sl, ((false && b17_1) = true → W10.cell? (q4.add 1) = some s50_3.v) ∧
  (((false && b17_1) && (((s50_3.len : Int) : Int) == 1)) = true →
    CallV Tryd.prog 6 #[(.agg #[(.slice none 0 0), (.slice none 0 0), (.slice none 0 0), (.slice none 0 0), (.slice none 0 0), (.slice none 0 0), (.slice none 0 0), (.int .i64 0), (.slice none 0 0), (.slice none 0 0), (.slice none 0 0)])] W10 fun v W19 => ∃ x56_3 : Int, v = (.int .i64 x56_3) ∧
    R (.returned (.bool ((x56_3 : Int) == 12))) W19) ∧
  (((false && b17_1) && (((s50_3.len : Int) : Int) == 1)) = !true →
    R (.returned (.bool false)) W10)))
theorem of_plaitlaw15_awake  (W : World) (R : Ending → World → Prop) (h : V_plaitlaw15_awake  W R) : Calls Tryd.prog 5 #[] W R :=
  calls_of_vcF Tryd.mix Tryd.func5 (an := (.seq .nil (.seq .nil (.seq .nil (.seq .nil (.seq .nil .nil)))))) (args := []) (Eq.mpr (by kernel_rfl : vcF Tryd.prog Tryd.f5 (.seq .nil (.seq .nil (.seq .nil (.seq .nil (.seq .nil .nil))))) [] W R = V_plaitlaw15_awake  W R) h)

/-- plait/valid.Check -/
def V_valid_Check (s0_0 : Sl) (s0_1 : Sl) (s0_2 : Sl) (s0_3 : Sl) (s0_4 : Sl) (s0_5 : Sl) (s0_6 : Sl) (x0_7 : Int) (s0_8 : Sl) (s0_9 : Sl) (s0_10 : Sl) (W : World) (R : Ending → World → Prop) : Prop :=
  Na W #[s0_0.v, s0_1.v, s0_2.v, s0_3.v, s0_4.v, s0_5.v, s0_6.v, (.int .i64 x0_7), s0_8.v, s0_9.v, s0_10.v] 32 fun q1 W1 =>
  ∃ s9_0 : Sl, W1.cell? (q1.add 0) = some s9_0.v ∧
  ∃ s9_1 : Sl, W1.cell? (q1.add 1) = some s9_1.v ∧
  ∃ s9_2 : Sl, W1.cell? (q1.add 2) = some s9_2.v ∧
  ∃ s9_3 : Sl, W1.cell? (q1.add 3) = some s9_3.v ∧
  ∃ s9_4 : Sl, W1.cell? (q1.add 4) = some s9_4.v ∧
  ∃ s9_5 : Sl, W1.cell? (q1.add 5) = some s9_5.v ∧
  ∃ s9_6 : Sl, W1.cell? (q1.add 6) = some s9_6.v ∧
  ∃ x9_7 : Int, W1.cell? (q1.add 7) = some (.int .i64 x9_7) ∧
  ∃ s9_8 : Sl, W1.cell? (q1.add 8) = some s9_8.v ∧
  ∃ s9_9 : Sl, W1.cell? (q1.add 9) = some s9_9.v ∧
  ∃ s9_10 : Sl, W1.cell? (q1.add 10) = some s9_10.v ∧
  CallV Tryd.prog 13 #[(.agg #[s9_0.v, s9_1.v, s9_2.v, s9_3.v, s9_4.v, s9_5.v, s9_6.v, (.int .i64 x9_7), s9_8.v, s9_9.v, s9_10.v])] W1 fun v W2 => ∃ s10_0 : Sl, ∃ x10_1 : Int, v = (.tuple #[s10_0.v, (.int .i64 x10_1)]) ∧
  Br ((x10_1 : Int) != 0)
    (R (.returned (.int .i64 x10_1)) W2)
    (∃ s16_0 : Sl, W2.cell? (q1.add 0) = some s16_0.v ∧
    ∃ s16_1 : Sl, W2.cell? (q1.add 1) = some s16_1.v ∧
    ∃ s16_2 : Sl, W2.cell? (q1.add 2) = some s16_2.v ∧
    ∃ s16_3 : Sl, W2.cell? (q1.add 3) = some s16_3.v ∧
    ∃ s16_4 : Sl, W2.cell? (q1.add 4) = some s16_4.v ∧
    ∃ s16_5 : Sl, W2.cell? (q1.add 5) = some s16_5.v ∧
    ∃ s16_6 : Sl, W2.cell? (q1.add 6) = some s16_6.v ∧
    ∃ x16_7 : Int, W2.cell? (q1.add 7) = some (.int .i64 x16_7) ∧
    ∃ s16_8 : Sl, W2.cell? (q1.add 8) = some s16_8.v ∧
    ∃ s16_9 : Sl, W2.cell? (q1.add 9) = some s16_9.v ∧
    ∃ s16_10 : Sl, W2.cell? (q1.add 10) = some s16_10.v ∧
    CallV Tryd.prog 14 #[(.agg #[s16_0.v, s16_1.v, s16_2.v, s16_3.v, s16_4.v, s16_5.v, s16_6.v, (.int .i64 x16_7), s16_8.v, s16_9.v, s16_10.v])] W2 fun v W3 => ∃ b17 : Bool, v = (.bool b17) ∧
    Br (!b17)
      (R (.returned (.int .i64 12)) W3)
      (∃ s20 : Sl, W3.cell? (q1.add 9) = some s20.v ∧
      ∀ L : Int → World → Prop, (∀ (x22 : Int) W4, (
        Br (decide ((x22 : Int) < (s20.len : Int)))
          (∃ s26_0 : Sl, W4.cell? (q1.add 0) = some s26_0.v ∧
          ∃ s26_1 : Sl, W4.cell? (q1.add 1) = some s26_1.v ∧
          ∃ s26_2 : Sl, W4.cell? (q1.add 2) = some s26_2.v ∧
          ∃ s26_3 : Sl, W4.cell? (q1.add 3) = some s26_3.v ∧
          ∃ s26_4 : Sl, W4.cell? (q1.add 4) = some s26_4.v ∧
          ∃ s26_5 : Sl, W4.cell? (q1.add 5) = some s26_5.v ∧
          ∃ s26_6 : Sl, W4.cell? (q1.add 6) = some s26_6.v ∧
          ∃ x26_7 : Int, W4.cell? (q1.add 7) = some (.int .i64 x26_7) ∧
          ∃ s26_8 : Sl, W4.cell? (q1.add 8) = some s26_8.v ∧
          ∃ s26_9 : Sl, W4.cell? (q1.add 9) = some s26_9.v ∧
          ∃ s26_10 : Sl, W4.cell? (q1.add 10) = some s26_10.v ∧
          CallV Tryd.prog 15 #[(.agg #[s26_0.v, s26_1.v, s26_2.v, s26_3.v, s26_4.v, s26_5.v, s26_6.v, (.int .i64 x26_7), s26_8.v, s26_9.v, s26_10.v]), (.int .i64 x22)] W4 fun v W5 => ∃ s28_0 : Sl, ∃ b28_1 : Bool, v = (.tuple #[s28_0.v, (.bool b28_1)]) ∧
          Br (!b28_1)
            (R (.returned (.int .i64 12)) W5)
            (L (IntKind.wrap .i64 (x22 + 1)) W5))
          (R (.returned (.int .i64 0)) W4)) → L x22 W4) →
      L 0 W3))
theorem of_valid_Check (s0_0 : Sl) (s0_1 : Sl) (s0_2 : Sl) (s0_3 : Sl) (s0_4 : Sl) (s0_5 : Sl) (s0_6 : Sl) (x0_7 : Int) (s0_8 : Sl) (s0_9 : Sl) (s0_10 : Sl) (W : World) (R : Ending → World → Prop) (h : V_valid_Check s0_0 s0_1 s0_2 s0_3 s0_4 s0_5 s0_6 x0_7 s0_8 s0_9 s0_10 W R) : Calls Tryd.prog 6 #[(.agg #[s0_0.v, s0_1.v, s0_2.v, s0_3.v, s0_4.v, s0_5.v, s0_6.v, (.int .i64 x0_7), s0_8.v, s0_9.v, s0_10.v])] W R :=
  calls_of_vcF Tryd.mix Tryd.func6 (an := (.seq .nil (.seq (.seq .nil (.seq .nil (.cond (.seq .nil .nil) .nil))) (.seq (.seq .nil (.cond (.seq .nil .nil) .nil)) (.seq (.seq .nil (.blk (.lp [(22, .int .i64)] [2, 5, 6, 7, 23, 24, 25, 26, 27, 28, 29, 30, 31, 32, 33] (.seq .nil (.seq (.cond .nil .nil) (.seq (.blk (.seq .nil (.seq .nil (.seq .nil (.cond (.seq .nil .nil) .nil))))) .nil)))))) (.seq .nil .nil)))))) (args := [(.agg #[s0_0.v, s0_1.v, s0_2.v, s0_3.v, s0_4.v, s0_5.v, s0_6.v, (.int .i64 x0_7), s0_8.v, s0_9.v, s0_10.v])]) (Eq.mpr (by kernel_rfl : vcF Tryd.prog Tryd.f6 (.seq .nil (.seq (.seq .nil (.seq .nil (.cond (.seq .nil .nil) .nil))) (.seq (.seq .nil (.cond (.seq .nil .nil) .nil)) (.seq (.seq .nil (.blk (.lp [(22, .int .i64)] [2, 5, 6, 7, 23, 24, 25, 26, 27, 28, 29, 30, 31, 32, 33] (.seq .nil (.seq (.cond .nil .nil) (.seq (.blk (.seq .nil (.seq .nil (.seq .nil (.cond (.seq .nil .nil) .nil))))) .nil)))))) (.seq .nil .nil))))) [(.agg #[s0_0.v, s0_1.v, s0_2.v, s0_3.v, s0_4.v, s0_5.v, s0_6.v, (.int .i64 x0_7), s0_8.v, s0_9.v, s0_10.v])] W R = V_valid_Check s0_0 s0_1 s0_2 s0_3 s0_4 s0_5 s0_6 x0_7 s0_8 s0_9 s0_10 W R) h)

/-- plait/valid.Sig -/
def V_valid_Sig (s0_0 : Sl) (s0_1 : Sl) (s0_2 : Sl) (s0_3 : Sl) (s0_4 : Sl) (s0_5 : Sl) (s0_6 : Sl) (x0_7 : Int) (s0_8 : Sl) (s0_9 : Sl) (s0_10 : Sl) (x1 : Int) (W : World) (R : Ending → World → Prop) : Prop :=
  Na W #[s0_0.v, s0_1.v, s0_2.v, s0_3.v, s0_4.v, s0_5.v, s0_6.v, (.int .i64 x0_7), s0_8.v, s0_9.v, s0_10.v] 32 fun q2 W1 =>
  Na W1 #[(.slice none 0 0), (.slice none 0 0)] 37 fun q4 W2 =>
  ∃ s9 : Sl, W2.cell? (q2.add 1) = some s9.v ∧
  Br ((decide ((x1 : Int) ≥ 0)) && (decide ((x1 : Int) < (s9.len : Int))))
    (∃ s20 : Sl, W2.cell? (q2.add 1) = some s20.v ∧
    ∃ q22 : Addr, (s20.a = some q22 ∧ (0 : Int) ≤ x1 ∧ x1 < (s20.len : Int)) ∧
    ∃ x24 : Int, W2.cell? ((q22.add ((x1 : Int).toNat * 3)).add 2) = some (.int .i64 x24) ∧
    ∃ s45_0 : Sl, W2.cell? (q2.add 0) = some s45_0.v ∧
    ∃ s45_1 : Sl, W2.cell? (q2.add 1) = some s45_1.v ∧
    ∃ s45_2 : Sl, W2.cell? (q2.add 2) = some s45_2.v ∧
    ∃ s45_3 : Sl, W2.cell? (q2.add 3) = some s45_3.v ∧
    ∃ s45_4 : Sl, W2.cell? (q2.add 4) = some s45_4.v ∧
    ∃ s45_5 : Sl, W2.cell? (q2.add 5) = some s45_5.v ∧
    ∃ s45_6 : Sl, W2.cell? (q2.add 6) = some s45_6.v ∧
    ∃ x45_7 : Int, W2.cell? (q2.add 7) = some (.int .i64 x45_7) ∧
    ∃ s45_8 : Sl, W2.cell? (q2.add 8) = some s45_8.v ∧
    ∃ s45_9 : Sl, W2.cell? (q2.add 9) = some s45_9.v ∧
    ∃ s45_10 : Sl, W2.cell? (q2.add 10) = some s45_10.v ∧
    CallV Tryd.prog 16 #[(.agg #[s45_0.v, s45_1.v, s45_2.v, s45_3.v, s45_4.v, s45_5.v, s45_6.v, (.int .i64 x45_7), s45_8.v, s45_9.v, s45_10.v]), (.int .i64 x24)] W2 fun v W3 => ∃ s47_0_0 : Sl, ∃ s47_0_1 : Sl, ∃ b47_1 : Bool, v = (.tuple #[(.agg #[s47_0_0.v, s47_0_1.v]), (.bool b47_1)]) ∧
    stC W3 q4 [s47_0_0.v, s47_0_1.v] 0 fun W4 =>
    ∃ sr4_0 : Sl, W4.cell? (q4.add 0) = some sr4_0.v ∧
    ∃ sr4_1 : Sl, W4.cell? (q4.add 1) = some sr4_1.v ∧
    R (.returned (.tuple #[(.agg #[sr4_0.v, sr4_1.v]), (.bool b47_1)])) W4)
    (∃ s34 : Sl, ((decide ((x1 : Int) ≥ (s9.len : Int))) = true → W2.cell? (q2.add 2) = some s34.v) ∧
    Br ((decide ((x1 : Int) ≥ (s9.len : Int))) && (decide (((IntKind.wrap .i64 (x1 - (s9.len : Int))) : Int) < (s34.len : Int))))
      (∃ s39 : Sl, W2.cell? (q2.add 2) = some s39.v ∧
      ∃ q43 : Addr, (s39.a = some q43 ∧ (0 : Int) ≤ (IntKind.wrap .i64 (x1 - (s9.len : Int))) ∧ (IntKind.wrap .i64 (x1 - (s9.len : Int))) < (s39.len : Int)) ∧
      ∃ x44 : Int, W2.cell? (q43.add (((IntKind.wrap .i64 (x1 - (s9.len : Int))) : Int).toNat * 1)) = some (.int .i64 x44) ∧
      ∃ s45_0_1 : Sl, W2.cell? (q2.add 0) = some s45_0_1.v ∧
      ∃ s45_1_1 : Sl, W2.cell? (q2.add 1) = some s45_1_1.v ∧
      ∃ s45_2_1 : Sl, W2.cell? (q2.add 2) = some s45_2_1.v ∧
      ∃ s45_3_1 : Sl, W2.cell? (q2.add 3) = some s45_3_1.v ∧
      ∃ s45_4_1 : Sl, W2.cell? (q2.add 4) = some s45_4_1.v ∧
      ∃ s45_5_1 : Sl, W2.cell? (q2.add 5) = some s45_5_1.v ∧
      ∃ s45_6_1 : Sl, W2.cell? (q2.add 6) = some s45_6_1.v ∧
      ∃ x45_7_1 : Int, W2.cell? (q2.add 7) = some (.int .i64 x45_7_1) ∧
      ∃ s45_8_1 : Sl, W2.cell? (q2.add 8) = some s45_8_1.v ∧
      ∃ s45_9_1 : Sl, W2.cell? (q2.add 9) = some s45_9_1.v ∧
      ∃ s45_10_1 : Sl, W2.cell? (q2.add 10) = some s45_10_1.v ∧
      CallV Tryd.prog 16 #[(.agg #[s45_0_1.v, s45_1_1.v, s45_2_1.v, s45_3_1.v, s45_4_1.v, s45_5_1.v, s45_6_1.v, (.int .i64 x45_7_1), s45_8_1.v, s45_9_1.v, s45_10_1.v]), (.int .i64 x44)] W2 fun v W5 => ∃ s47_0_0_1 : Sl, ∃ s47_0_1_1 : Sl, ∃ b47_1_1 : Bool, v = (.tuple #[(.agg #[s47_0_0_1.v, s47_0_1_1.v]), (.bool b47_1_1)]) ∧
      stC W5 q4 [s47_0_0_1.v, s47_0_1_1.v] 0 fun W6 =>
      ∃ sr4_0_1 : Sl, W6.cell? (q4.add 0) = some sr4_0_1.v ∧
      ∃ sr4_1_1 : Sl, W6.cell? (q4.add 1) = some sr4_1_1.v ∧
      R (.returned (.tuple #[(.agg #[sr4_0_1.v, sr4_1_1.v]), (.bool b47_1_1)])) W6)
      (∃ s45_0_2 : Sl, W2.cell? (q2.add 0) = some s45_0_2.v ∧
      ∃ s45_1_2 : Sl, W2.cell? (q2.add 1) = some s45_1_2.v ∧
      ∃ s45_2_2 : Sl, W2.cell? (q2.add 2) = some s45_2_2.v ∧
      ∃ s45_3_2 : Sl, W2.cell? (q2.add 3) = some s45_3_2.v ∧
      ∃ s45_4_2 : Sl, W2.cell? (q2.add 4) = some s45_4_2.v ∧
      ∃ s45_5_2 : Sl, W2.cell? (q2.add 5) = some s45_5_2.v ∧
      ∃ s45_6_2 : Sl, W2.cell? (q2.add 6) = some s45_6_2.v ∧
      ∃ x45_7_2 : Int, W2.cell? (q2.add 7) = some (.int .i64 x45_7_2) ∧
      ∃ s45_8_2 : Sl, W2.cell? (q2.add 8) = some s45_8_2.v ∧
      ∃ s45_9_2 : Sl, W2.cell? (q2.add 9) = some s45_9_2.v ∧
      ∃ s45_10_2 : Sl, W2.cell? (q2.add 10) = some s45_10_2.v ∧
      CallV Tryd.prog 16 #[(.agg #[s45_0_2.v, s45_1_2.v, s45_2_2.v, s45_3_2.v, s45_4_2.v, s45_5_2.v, s45_6_2.v, (.int .i64 x45_7_2), s45_8_2.v, s45_9_2.v, s45_10_2.v]), (.int .i64 (-1))] W2 fun v W7 => ∃ s47_0_0_2 : Sl, ∃ s47_0_1_2 : Sl, ∃ b47_1_2 : Bool, v = (.tuple #[(.agg #[s47_0_0_2.v, s47_0_1_2.v]), (.bool b47_1_2)]) ∧
      stC W7 q4 [s47_0_0_2.v, s47_0_1_2.v] 0 fun W8 =>
      ∃ sr4_0_2 : Sl, W8.cell? (q4.add 0) = some sr4_0_2.v ∧
      ∃ sr4_1_2 : Sl, W8.cell? (q4.add 1) = some sr4_1_2.v ∧
      R (.returned (.tuple #[(.agg #[sr4_0_2.v, sr4_1_2.v]), (.bool b47_1_2)])) W8))
theorem of_valid_Sig (s0_0 : Sl) (s0_1 : Sl) (s0_2 : Sl) (s0_3 : Sl) (s0_4 : Sl) (s0_5 : Sl) (s0_6 : Sl) (x0_7 : Int) (s0_8 : Sl) (s0_9 : Sl) (s0_10 : Sl) (x1 : Int) (W : World) (R : Ending → World → Prop) (h : V_valid_Sig s0_0 s0_1 s0_2 s0_3 s0_4 s0_5 s0_6 x0_7 s0_8 s0_9 s0_10 x1 W R) : Calls Tryd.prog 7 #[(.agg #[s0_0.v, s0_1.v, s0_2.v, s0_3.v, s0_4.v, s0_5.v, s0_6.v, (.int .i64 x0_7), s0_8.v, s0_9.v, s0_10.v]), (.int .i64 x1)] W R :=
  calls_of_vcF Tryd.mix Tryd.func7 (an := (.seq .nil (.seq .nil (.seq (.seq .nil (.blk (.seq .nil (.cond .nil (.seq .nil (.cond .nil .nil)))))) (.seq .nil .nil))))) (args := [(.agg #[s0_0.v, s0_1.v, s0_2.v, s0_3.v, s0_4.v, s0_5.v, s0_6.v, (.int .i64 x0_7), s0_8.v, s0_9.v, s0_10.v]), (.int .i64 x1)]) (Eq.mpr (by kernel_rfl : vcF Tryd.prog Tryd.f7 (.seq .nil (.seq .nil (.seq (.seq .nil (.blk (.seq .nil (.cond .nil (.seq .nil (.cond .nil .nil)))))) (.seq .nil .nil)))) [(.agg #[s0_0.v, s0_1.v, s0_2.v, s0_3.v, s0_4.v, s0_5.v, s0_6.v, (.int .i64 x0_7), s0_8.v, s0_9.v, s0_10.v]), (.int .i64 x1)] W R = V_valid_Sig s0_0 s0_1 s0_2 s0_3 s0_4 s0_5 s0_6 x0_7 s0_8 s0_9 s0_10 x1 W R) h)

/-- plait/valid.Marks -/
def V_valid_Marks (s0_0 : Sl) (s0_1 : Sl) (s0_2 : Sl) (s0_3 : Sl) (s0_4 : Sl) (s0_5 : Sl) (s0_6 : Sl) (x0_7 : Int) (s0_8 : Sl) (s0_9 : Sl) (s0_10 : Sl) (x1 : Int) (W : World) (R : Ending → World → Prop) : Prop :=
  Na W #[s0_0.v, s0_1.v, s0_2.v, s0_3.v, s0_4.v, s0_5.v, s0_6.v, (.int .i64 x0_7), s0_8.v, s0_9.v, s0_10.v] 32 fun q2 W1 =>
  ∃ s9_0 : Sl, W1.cell? (q2.add 0) = some s9_0.v ∧
  ∃ s9_1 : Sl, W1.cell? (q2.add 1) = some s9_1.v ∧
  ∃ s9_2 : Sl, W1.cell? (q2.add 2) = some s9_2.v ∧
  ∃ s9_3 : Sl, W1.cell? (q2.add 3) = some s9_3.v ∧
  ∃ s9_4 : Sl, W1.cell? (q2.add 4) = some s9_4.v ∧
  ∃ s9_5 : Sl, W1.cell? (q2.add 5) = some s9_5.v ∧
  ∃ s9_6 : Sl, W1.cell? (q2.add 6) = some s9_6.v ∧
  ∃ x9_7 : Int, W1.cell? (q2.add 7) = some (.int .i64 x9_7) ∧
  ∃ s9_8 : Sl, W1.cell? (q2.add 8) = some s9_8.v ∧
  ∃ s9_9 : Sl, W1.cell? (q2.add 9) = some s9_9.v ∧
  ∃ s9_10 : Sl, W1.cell? (q2.add 10) = some s9_10.v ∧
  CallV Tryd.prog 6 #[(.agg #[s9_0.v, s9_1.v, s9_2.v, s9_3.v, s9_4.v, s9_5.v, s9_6.v, (.int .i64 x9_7), s9_8.v, s9_9.v, s9_10.v])] W1 fun v W2 => ∃ x10 : Int, v = (.int .i64 x10) ∧
  ∃ s20 : Sl, ((((x10 : Int) == 1) || (decide ((x1 : Int) < 0))) = false → W2.cell? (q2.add 9) = some s20.v) ∧
  Br ((((x10 : Int) == 1) || (decide ((x1 : Int) < 0))) || (decide ((x1 : Int) ≥ (s20.len : Int))))
    (R (.returned (.tuple #[(.slice none 0 0), (.int .i64 1)])) W2)
    (Br ((x10 : Int) != 0)
      (R (.returned (.tuple #[(.slice none 0 0), (.int .i64 x10)])) W2)
      (∃ s28_0 : Sl, W2.cell? (q2.add 0) = some s28_0.v ∧
      ∃ s28_1 : Sl, W2.cell? (q2.add 1) = some s28_1.v ∧
      ∃ s28_2 : Sl, W2.cell? (q2.add 2) = some s28_2.v ∧
      ∃ s28_3 : Sl, W2.cell? (q2.add 3) = some s28_3.v ∧
      ∃ s28_4 : Sl, W2.cell? (q2.add 4) = some s28_4.v ∧
      ∃ s28_5 : Sl, W2.cell? (q2.add 5) = some s28_5.v ∧
      ∃ s28_6 : Sl, W2.cell? (q2.add 6) = some s28_6.v ∧
      ∃ x28_7 : Int, W2.cell? (q2.add 7) = some (.int .i64 x28_7) ∧
      ∃ s28_8 : Sl, W2.cell? (q2.add 8) = some s28_8.v ∧
      ∃ s28_9 : Sl, W2.cell? (q2.add 9) = some s28_9.v ∧
      ∃ s28_10 : Sl, W2.cell? (q2.add 10) = some s28_10.v ∧
      CallV Tryd.prog 15 #[(.agg #[s28_0.v, s28_1.v, s28_2.v, s28_3.v, s28_4.v, s28_5.v, s28_6.v, (.int .i64 x28_7), s28_8.v, s28_9.v, s28_10.v]), (.int .i64 x1)] W2 fun v W3 => ∃ s30_0 : Sl, ∃ b30_1 : Bool, v = (.tuple #[s30_0.v, (.bool b30_1)]) ∧
      R (.returned (.tuple #[s30_0.v, (.int .i64 0)])) W3))
theorem of_valid_Marks (s0_0 : Sl) (s0_1 : Sl) (s0_2 : Sl) (s0_3 : Sl) (s0_4 : Sl) (s0_5 : Sl) (s0_6 : Sl) (x0_7 : Int) (s0_8 : Sl) (s0_9 : Sl) (s0_10 : Sl) (x1 : Int) (W : World) (R : Ending → World → Prop) (h : V_valid_Marks s0_0 s0_1 s0_2 s0_3 s0_4 s0_5 s0_6 x0_7 s0_8 s0_9 s0_10 x1 W R) : Calls Tryd.prog 8 #[(.agg #[s0_0.v, s0_1.v, s0_2.v, s0_3.v, s0_4.v, s0_5.v, s0_6.v, (.int .i64 x0_7), s0_8.v, s0_9.v, s0_10.v]), (.int .i64 x1)] W R :=
  calls_of_vcF Tryd.mix Tryd.func8 (an := (.seq .nil (.seq .nil (.seq (.seq .nil (.cond (.seq .nil .nil) .nil)) (.seq (.seq .nil (.cond (.seq .nil .nil) .nil)) (.seq .nil (.seq .nil .nil))))))) (args := [(.agg #[s0_0.v, s0_1.v, s0_2.v, s0_3.v, s0_4.v, s0_5.v, s0_6.v, (.int .i64 x0_7), s0_8.v, s0_9.v, s0_10.v]), (.int .i64 x1)]) (Eq.mpr (by kernel_rfl : vcF Tryd.prog Tryd.f8 (.seq .nil (.seq .nil (.seq (.seq .nil (.cond (.seq .nil .nil) .nil)) (.seq (.seq .nil (.cond (.seq .nil .nil) .nil)) (.seq .nil (.seq .nil .nil)))))) [(.agg #[s0_0.v, s0_1.v, s0_2.v, s0_3.v, s0_4.v, s0_5.v, s0_6.v, (.int .i64 x0_7), s0_8.v, s0_9.v, s0_10.v]), (.int .i64 x1)] W R = V_valid_Marks s0_0 s0_1 s0_2 s0_3 s0_4 s0_5 s0_6 x0_7 s0_8 s0_9 s0_10 x1 W R) h)

/-- plait/plaitlaw15.same -/
def V_plaitlaw15_same (s0 : Sl) (s1 : Sl) (W : World) (R : Ending → World → Prop) : Prop :=
  Br (((s0.len : Int) : Int) != (s1.len : Int))
    (R (.returned (.bool false)) W)
    (∀ L : Int → World → Prop, (∀ (x5 : Int) W1, (
      Br (decide ((x5 : Int) < (s0.len : Int)))
        (Dw W1 fun W2 =>
        ∃ q19 : Addr, (s0.a = some q19 ∧ (0 : Int) ≤ x5 ∧ x5 < (s0.len : Int)) ∧
        ∃ b20_0 : Bool, W2.cell? ((q19.add ((x5 : Int).toNat * 3)).add 0) = some (.bool b20_0) ∧
        ∃ x20_1 : Int, W2.cell? ((q19.add ((x5 : Int).toNat * 3)).add 1) = some (.int .i64 x20_1) ∧
        ∃ x20_2 : Int, W2.cell? ((q19.add ((x5 : Int).toNat * 3)).add 2) = some (.int .i64 x20_2) ∧
        ∃ q23 : Addr, (s1.a = some q23 ∧ (0 : Int) ≤ x5 ∧ x5 < (s1.len : Int)) ∧
        ∃ b24_0 : Bool, W2.cell? ((q23.add ((x5 : Int).toNat * 3)).add 0) = some (.bool b24_0) ∧
        ∃ x24_1 : Int, W2.cell? ((q23.add ((x5 : Int).toNat * 3)).add 1) = some (.int .i64 x24_1) ∧
        ∃ x24_2 : Int, W2.cell? ((q23.add ((x5 : Int).toNat * 3)).add 2) = some (.int .i64 x24_2) ∧
        RunV Tryd.prog (do eqGuard .neq 56 (.tmp 20) (.tmp 24) (.agg #[(.bool b20_0), (.int .i64 x20_1), (.int .i64 x20_2)]) (.agg #[(.bool b24_0), (.int .i64 x24_1), (.int .i64 x24_2)]); binOp .neq 56 (.agg #[(.bool b20_0), (.int .i64 x20_1), (.int .i64 x20_2)]) (.agg #[(.bool b24_0), (.int .i64 x24_1), (.int .i64 x24_2)])) W2 fun v W3 => asB v fun b25 =>
        Br b25
          (R (.returned (.bool false)) W3)
          (L (IntKind.wrap .i64 (x5 + 1)) W3))
        (R (.returned (.bool true)) W1)) → L x5 W1) →
    L 0 W)
theorem of_plaitlaw15_same (s0 : Sl) (s1 : Sl) (W : World) (R : Ending → World → Prop) (h : V_plaitlaw15_same s0 s1 W R) : Calls Tryd.prog 9 #[s0.v, s1.v] W R :=
  calls_of_vcF Tryd.mix Tryd.func9 (an := (.seq .nil (.seq (.seq .nil (.cond (.seq .nil .nil) .nil)) (.seq (.seq .nil (.blk (.lp [(5, .int .i64)] [4, 11, 12, 13, 14, 15, 16, 17, 18, 19, 20, 21, 22, 23, 24, 25] (.seq (.seq .nil (.cond .nil .nil)) (.seq (.blk (.seq .nil (.cond (.seq .nil .nil) .nil))) .nil))))) (.seq .nil .nil))))) (args := [s0.v, s1.v]) (Eq.mpr (by kernel_rfl : vcF Tryd.prog Tryd.f9 (.seq .nil (.seq (.seq .nil (.cond (.seq .nil .nil) .nil)) (.seq (.seq .nil (.blk (.lp [(5, .int .i64)] [4, 11, 12, 13, 14, 15, 16, 17, 18, 19, 20, 21, 22, 23, 24, 25] (.seq (.seq .nil (.cond .nil .nil)) (.seq (.blk (.seq .nil (.cond (.seq .nil .nil) .nil))) .nil))))) (.seq .nil .nil)))) [s0.v, s1.v] W R = V_plaitlaw15_same s0 s1 W R) h)

/-- plait/plaitref13.Same -/
def V_plaitref13_Same (s0_0 : Sl) (s0_1 : Sl) (s0_2 : Sl) (s0_3 : Sl) (s0_4 : Sl) (s0_5 : Sl) (s0_6 : Sl) (x0_7 : Int) (s0_8 : Sl) (s0_9 : Sl) (s0_10 : Sl) (s1_0 : Sl) (s1_1 : Sl) (s1_2 : Sl) (s1_3 : Sl) (s1_4 : Sl) (s1_5 : Sl) (s1_6 : Sl) (x1_7 : Int) (s1_8 : Sl) (s1_9 : Sl) (s1_10 : Sl) (W : World) (R : Ending → World → Prop) : Prop :=
  Na W #[s0_0.v, s0_1.v, s0_2.v, s0_3.v, s0_4.v, s0_5.v, s0_6.v, (.int .i64 x0_7), s0_8.v, s0_9.v, s0_10.v] 32 fun q2 W1 =>
  Na W1 #[s1_0.v, s1_1.v, s1_2.v, s1_3.v, s1_4.v, s1_5.v, s1_6.v, (.int .i64 x1_7), s1_8.v, s1_9.v, s1_10.v] 32 fun q3 W2 =>
  ∃ s10 : Sl, W2.cell? (q2.add 0) = some s10.v ∧
  ∃ s13 : Sl, W2.cell? (q3.add 0) = some s13.v ∧
  ∃ s18 : Sl, ((((s10.len : Int) : Int) != (s13.len : Int)) = false → W2.cell? (q2.add 1) = some s18.v) ∧
  ∃ s21 : Sl, ((((s10.len : Int) : Int) != (s13.len : Int)) = false → W2.cell? (q3.add 1) = some s21.v) ∧
  ∃ s27 : Sl, (((((s10.len : Int) : Int) != (s13.len : Int)) || (((s18.len : Int) : Int) != (s21.len : Int))) = false → W2.cell? (q2.add 5) = some s27.v) ∧
  ∃ s30 : Sl, (((((s10.len : Int) : Int) != (s13.len : Int)) || (((s18.len : Int) : Int) != (s21.len : Int))) = false → W2.cell? (q3.add 5) = some s30.v) ∧
  ∃ s36 : Sl, ((((((s10.len : Int) : Int) != (s13.len : Int)) || (((s18.len : Int) : Int) != (s21.len : Int))) || (((s27.len : Int) : Int) != (s30.len : Int))) = false → W2.cell? (q2.add 6) = some s36.v) ∧
  ∃ s39 : Sl, ((((((s10.len : Int) : Int) != (s13.len : Int)) || (((s18.len : Int) : Int) != (s21.len : Int))) || (((s27.len : Int) : Int) != (s30.len : Int))) = false → W2.cell? (q3.add 6) = some s39.v) ∧
  ∃ s45 : Sl, (((((((s10.len : Int) : Int) != (s13.len : Int)) || (((s18.len : Int) : Int) != (s21.len : Int))) || (((s27.len : Int) : Int) != (s30.len : Int))) || (((s36.len : Int) : Int) != (s39.len : Int))) = false → W2.cell? (q2.add 8) = some s45.v) ∧
  ∃ s48 : Sl, (((((((s10.len : Int) : Int) != (s13.len : Int)) || (((s18.len : Int) : Int) != (s21.len : Int))) || (((s27.len : Int) : Int) != (s30.len : Int))) || (((s36.len : Int) : Int) != (s39.len : Int))) = false → W2.cell? (q3.add 8) = some s48.v) ∧
  ∃ s54 : Sl, ((((((((s10.len : Int) : Int) != (s13.len : Int)) || (((s18.len : Int) : Int) != (s21.len : Int))) || (((s27.len : Int) : Int) != (s30.len : Int))) || (((s36.len : Int) : Int) != (s39.len : Int))) || (((s45.len : Int) : Int) != (s48.len : Int))) = false → W2.cell? (q2.add 9) = some s54.v) ∧
  ∃ s57 : Sl, ((((((((s10.len : Int) : Int) != (s13.len : Int)) || (((s18.len : Int) : Int) != (s21.len : Int))) || (((s27.len : Int) : Int) != (s30.len : Int))) || (((s36.len : Int) : Int) != (s39.len : Int))) || (((s45.len : Int) : Int) != (s48.len : Int))) = false → W2.cell? (q3.add 9) = some s57.v) ∧
  ∃ s63 : Sl, (((((((((s10.len : Int) : Int) != (s13.len : Int)) || (((s18.len : Int) : Int) != (s21.len : Int))) || (((s27.len : Int) : Int) != (s30.len : Int))) || (((s36.len : Int) : Int) != (s39.len : Int))) || (((s45.len : Int) : Int) != (s48.len : Int))) || (((s54.len : Int) : Int) != (s57.len : Int))) = false → W2.cell? (q2.add 10) = some s63.v) ∧
  ∃ s66 : Sl, (((((((((s10.len : Int) : Int) != (s13.len : Int)) || (((s18.len : Int) : Int) != (s21.len : Int))) || (((s27.len : Int) : Int) != (s30.len : Int))) || (((s36.len : Int) : Int) != (s39.len : Int))) || (((s45.len : Int) : Int) != (s48.len : Int))) || (((s54.len : Int) : Int) != (s57.len : Int))) = false → W2.cell? (q3.add 10) = some s66.v) ∧
  Br (((((((((s10.len : Int) : Int) != (s13.len : Int)) || (((s18.len : Int) : Int) != (s21.len : Int))) || (((s27.len : Int) : Int) != (s30.len : Int))) || (((s36.len : Int) : Int) != (s39.len : Int))) || (((s45.len : Int) : Int) != (s48.len : Int))) || (((s54.len : Int) : Int) != (s57.len : Int))) || (((s63.len : Int) : Int) != (s66.len : Int)))
    (R (.returned (.bool false)) W2)
    (∀ J : World → Prop, (∀ W3, (
      ∀ L : Int → World → Prop, (∀ (x5 : Int) W4, (
        ∃ s101 : Sl, W4.cell? (q2.add 0) = some s101.v ∧
        Br (decide ((x5 : Int) < (s101.len : Int)))
          (Dw W4 fun W5 =>
          ∃ S : World → Prop, S W5 ∧
          ∃ s107 : Sl, (∀ w, S w → w.cell? (q2.add 0) = some s107.v) ∧
          ∃ q109 : Addr, (s107.a = some q109 ∧ (0 : Int) ≤ x5 ∧ x5 < (s107.len : Int)) ∧
          ∃ s110_0 : Sl, (∀ w, S w → w.cell? ((q109.add ((x5 : Int).toNat * 2)).add 0) = some s110_0.v) ∧
          ∃ s110_1 : Sl, (∀ w, S w → w.cell? ((q109.add ((x5 : Int).toNat * 2)).add 1) = some s110_1.v) ∧
          ∃ s112 : Sl, (∀ w, S w → w.cell? (q3.add 0) = some s112.v) ∧
          ∃ q114 : Addr, (s112.a = some q114 ∧ (0 : Int) ≤ x5 ∧ x5 < (s112.len : Int)) ∧
          ∃ s115_0 : Sl, (∀ w, S w → w.cell? ((q114.add ((x5 : Int).toNat * 2)).add 0) = some s115_0.v) ∧
          ∃ s115_1 : Sl, (∀ w, S w → w.cell? ((q114.add ((x5 : Int).toNat * 2)).add 1) = some s115_1.v) ∧
          CallV Tryd.prog 11 #[(.agg #[s110_0.v, s110_1.v]), (.agg #[s115_0.v, s115_1.v])] W5 fun v W6 => ∃ b116 : Bool, v = (.bool b116) ∧
          S W6 ∧
          Br (!b116)
            (R (.returned (.bool false)) W6)
            (L (IntKind.wrap .i64 (x5 + 1)) W6))
          (∀ L_1 : Int → World → Prop, (∀ (x6 : Int) W7, (
            ∃ s120 : Sl, W7.cell? (q2.add 1) = some s120.v ∧
            Br (decide ((x6 : Int) < (s120.len : Int)))
              (Dw W7 fun W8 =>
              ∃ S_1 : World → Prop, S_1 W8 ∧
              ∃ s126 : Sl, (∀ w, S_1 w → w.cell? (q2.add 1) = some s126.v) ∧
              ∃ q128 : Addr, (s126.a = some q128 ∧ (0 : Int) ≤ x6 ∧ x6 < (s126.len : Int)) ∧
              ∃ s129_0 : ByteArray, (∀ w, S_1 w → w.cell? ((q128.add ((x6 : Int).toNat * 3)).add 0) = some (.string s129_0)) ∧
              ∃ s129_1 : ByteArray, (∀ w, S_1 w → w.cell? ((q128.add ((x6 : Int).toNat * 3)).add 1) = some (.string s129_1)) ∧
              ∃ x129_2 : Int, (∀ w, S_1 w → w.cell? ((q128.add ((x6 : Int).toNat * 3)).add 2) = some (.int .i64 x129_2)) ∧
              ∃ s131 : Sl, (∀ w, S_1 w → w.cell? (q3.add 1) = some s131.v) ∧
              ∃ q133 : Addr, (s131.a = some q133 ∧ (0 : Int) ≤ x6 ∧ x6 < (s131.len : Int)) ∧
              ∃ s134_0 : ByteArray, (∀ w, S_1 w → w.cell? ((q133.add ((x6 : Int).toNat * 3)).add 0) = some (.string s134_0)) ∧
              ∃ s134_1 : ByteArray, (∀ w, S_1 w → w.cell? ((q133.add ((x6 : Int).toNat * 3)).add 1) = some (.string s134_1)) ∧
              ∃ x134_2 : Int, (∀ w, S_1 w → w.cell? ((q133.add ((x6 : Int).toNat * 3)).add 2) = some (.int .i64 x134_2)) ∧
              RunV Tryd.prog (do eqGuard .neq 66 (.tmp 129) (.tmp 134) (.agg #[(.string s129_0), (.string s129_1), (.int .i64 x129_2)]) (.agg #[(.string s134_0), (.string s134_1), (.int .i64 x134_2)]); binOp .neq 66 (.agg #[(.string s129_0), (.string s129_1), (.int .i64 x129_2)]) (.agg #[(.string s134_0), (.string s134_1), (.int .i64 x134_2)])) W8 fun v W9 => asB v fun b135 =>
              S_1 W9 ∧
              Br b135
                (R (.returned (.bool false)) W9)
                (L_1 (IntKind.wrap .i64 (x6 + 1)) W9))
              (∀ L_2 : Int → World → Prop, (∀ (x7 : Int) W10, (
                ∃ s138 : Sl, W10.cell? (q2.add 5) = some s138.v ∧
                Br (decide ((x7 : Int) < (s138.len : Int)))
                  (∀ J_1 : Bool → World → Prop, (∀ (b186 : Bool) W11, (
                    Br b186
                      (R (.returned (.bool false)) W11)
                      (L_2 (IntKind.wrap .i64 (x7 + 1)) W11)) → J_1 b186 W11) →
                  Dw W10 fun W12 =>
                  ∃ S_2 : World → Prop, S_2 W12 ∧
                  ∃ s144 : Sl, (∀ w, S_2 w → w.cell? (q2.add 5) = some s144.v) ∧
                  ∃ q146 : Addr, (s144.a = some q146 ∧ (0 : Int) ≤ x7 ∧ x7 < (s144.len : Int)) ∧
                  ∃ x148 : Int, (∀ w, S_2 w → w.cell? ((q146.add ((x7 : Int).toNat * 3)).add 0) = some (.int .i64 x148)) ∧
                  ∃ s150 : Sl, (∀ w, S_2 w → w.cell? (q3.add 5) = some s150.v) ∧
                  ∃ q152 : Addr, (s150.a = some q152 ∧ (0 : Int) ≤ x7 ∧ x7 < (s150.len : Int)) ∧
                  ∃ x154 : Int, (∀ w, S_2 w → w.cell? ((q152.add ((x7 : Int).toNat * 3)).add 0) = some (.int .i64 x154)) ∧
                  ∃ s158 : Sl, (((x148 : Int) != x154) = false → (∀ w, S_2 w → w.cell? (q2.add 5) = some s158.v)) ∧
                  ∃ q160 : Addr, (((x148 : Int) != x154) = false → (s158.a = some q160 ∧ (0 : Int) ≤ x7 ∧ x7 < (s158.len : Int))) ∧
                  ∃ b162 : Bool, (((x148 : Int) != x154) = false → (∀ w, S_2 w → w.cell? ((q160.add ((x7 : Int).toNat * 3)).add 1) = some (.bool b162))) ∧
                  ∃ s164 : Sl, (((x148 : Int) != x154) = false → (∀ w, S_2 w → w.cell? (q3.add 5) = some s164.v)) ∧
                  ∃ q166 : Addr, (((x148 : Int) != x154) = false → (s164.a = some q166 ∧ (0 : Int) ≤ x7 ∧ x7 < (s164.len : Int))) ∧
                  ∃ b168 : Bool, (((x148 : Int) != x154) = false → (∀ w, S_2 w → w.cell? ((q166.add ((x7 : Int).toNat * 3)).add 1) = some (.bool b168))) ∧
                  ∃ s173 : Sl, ((((x148 : Int) != x154) || (!(b162 == b168))) = false → (∀ w, S_2 w → w.cell? (q2.add 5) = some s173.v)) ∧
                  ∃ q175 : Addr, ((((x148 : Int) != x154) || (!(b162 == b168))) = false → (s173.a = some q175 ∧ (0 : Int) ≤ x7 ∧ x7 < (s173.len : Int))) ∧
                  ∃ s177 : Sl, ((((x148 : Int) != x154) || (!(b162 == b168))) = false → (∀ w, S_2 w → w.cell? ((q175.add ((x7 : Int).toNat * 3)).add 2) = some s177.v)) ∧
                  ∃ s179 : Sl, ((((x148 : Int) != x154) || (!(b162 == b168))) = false → (∀ w, S_2 w → w.cell? (q3.add 5) = some s179.v)) ∧
                  ∃ q181 : Addr, ((((x148 : Int) != x154) || (!(b162 == b168))) = false → (s179.a = some q181 ∧ (0 : Int) ≤ x7 ∧ x7 < (s179.len : Int))) ∧
                  ∃ s183 : Sl, ((((x148 : Int) != x154) || (!(b162 == b168))) = false → (∀ w, S_2 w → w.cell? ((q181.add ((x7 : Int).toNat * 3)).add 2) = some s183.v)) ∧
                  ((((x148 : Int) != x154) || (!(b162 == b168))) = false →
                    CallV Tryd.prog 19 #[s177.v, s183.v] W12 fun v W13 => ∃ b184 : Bool, v = (.bool b184) ∧
                    S_2 W13 ∧
                  J_1 (!b184) W13) ∧
                  ((((x148 : Int) != x154) || (!(b162 == b168))) = !false →
                    S_2 W12 ∧
                  J_1 true W12))
                  (∀ L_3 : Int → World → Prop, (∀ (x8 : Int) W14, (
                    ∃ s189 : Sl, W14.cell? (q2.add 6) = some s189.v ∧
                    Br (decide ((x8 : Int) < (s189.len : Int)))
                      (Dw W14 fun W15 =>
                      ∃ S_3 : World → Prop, S_3 W15 ∧
                      ∃ s195 : Sl, (∀ w, S_3 w → w.cell? (q2.add 6) = some s195.v) ∧
                      ∃ q197 : Addr, (s195.a = some q197 ∧ (0 : Int) ≤ x8 ∧ x8 < (s195.len : Int)) ∧
                      ∃ s198_0 : ByteArray, (∀ w, S_3 w → w.cell? ((q197.add ((x8 : Int).toNat * 3)).add 0) = some (.string s198_0)) ∧
                      ∃ x198_1 : Int, (∀ w, S_3 w → w.cell? ((q197.add ((x8 : Int).toNat * 3)).add 1) = some (.int .i64 x198_1)) ∧
                      ∃ x198_2 : Int, (∀ w, S_3 w → w.cell? ((q197.add ((x8 : Int).toNat * 3)).add 2) = some (.int .i64 x198_2)) ∧
                      ∃ s200 : Sl, (∀ w, S_3 w → w.cell? (q3.add 6) = some s200.v) ∧
                      ∃ q202 : Addr, (s200.a = some q202 ∧ (0 : Int) ≤ x8 ∧ x8 < (s200.len : Int)) ∧
                      ∃ s203_0 : ByteArray, (∀ w, S_3 w → w.cell? ((q202.add ((x8 : Int).toNat * 3)).add 0) = some (.string s203_0)) ∧
                      ∃ x203_1 : Int, (∀ w, S_3 w → w.cell? ((q202.add ((x8 : Int).toNat * 3)).add 1) = some (.int .i64 x203_1)) ∧
                      ∃ x203_2 : Int, (∀ w, S_3 w → w.cell? ((q202.add ((x8 : Int).toNat * 3)).add 2) = some (.int .i64 x203_2)) ∧
                      RunV Tryd.prog (do eqGuard .neq 71 (.tmp 198) (.tmp 203) (.agg #[(.string s198_0), (.int .i64 x198_1), (.int .i64 x198_2)]) (.agg #[(.string s203_0), (.int .i64 x203_1), (.int .i64 x203_2)]); binOp .neq 71 (.agg #[(.string s198_0), (.int .i64 x198_1), (.int .i64 x198_2)]) (.agg #[(.string s203_0), (.int .i64 x203_1), (.int .i64 x203_2)])) W15 fun v W16 => asB v fun b204 =>
                      S_3 W16 ∧
                      Br b204
                        (R (.returned (.bool false)) W16)
                        (L_3 (IntKind.wrap .i64 (x8 + 1)) W16))
                      (∃ s205_0 : Sl, W14.cell? (q2.add 0) = some s205_0.v ∧
                      ∃ s205_1 : Sl, W14.cell? (q2.add 1) = some s205_1.v ∧
                      ∃ s205_2 : Sl, W14.cell? (q2.add 2) = some s205_2.v ∧
                      ∃ s205_3 : Sl, W14.cell? (q2.add 3) = some s205_3.v ∧
                      ∃ s205_4 : Sl, W14.cell? (q2.add 4) = some s205_4.v ∧
                      ∃ s205_5 : Sl, W14.cell? (q2.add 5) = some s205_5.v ∧
                      ∃ s205_6 : Sl, W14.cell? (q2.add 6) = some s205_6.v ∧
                      ∃ x205_7 : Int, W14.cell? (q2.add 7) = some (.int .i64 x205_7) ∧
                      ∃ s205_8 : Sl, W14.cell? (q2.add 8) = some s205_8.v ∧
                      ∃ s205_9 : Sl, W14.cell? (q2.add 9) = some s205_9.v ∧
                      ∃ s205_10 : Sl, W14.cell? (q2.add 10) = some s205_10.v ∧
                      ∃ s206_0 : Sl, W14.cell? (q3.add 0) = some s206_0.v ∧
                      ∃ s206_1 : Sl, W14.cell? (q3.add 1) = some s206_1.v ∧
                      ∃ s206_2 : Sl, W14.cell? (q3.add 2) = some s206_2.v ∧
                      ∃ s206_3 : Sl, W14.cell? (q3.add 3) = some s206_3.v ∧
                      ∃ s206_4 : Sl, W14.cell? (q3.add 4) = some s206_4.v ∧
                      ∃ s206_5 : Sl, W14.cell? (q3.add 5) = some s206_5.v ∧
                      ∃ s206_6 : Sl, W14.cell? (q3.add 6) = some s206_6.v ∧
                      ∃ x206_7 : Int, W14.cell? (q3.add 7) = some (.int .i64 x206_7) ∧
                      ∃ s206_8 : Sl, W14.cell? (q3.add 8) = some s206_8.v ∧
                      ∃ s206_9 : Sl, W14.cell? (q3.add 9) = some s206_9.v ∧
                      ∃ s206_10 : Sl, W14.cell? (q3.add 10) = some s206_10.v ∧
                      CallV Tryd.prog 20 #[(.agg #[s205_0.v, s205_1.v, s205_2.v, s205_3.v, s205_4.v, s205_5.v, s205_6.v, (.int .i64 x205_7), s205_8.v, s205_9.v, s205_10.v]), (.agg #[s206_0.v, s206_1.v, s206_2.v, s206_3.v, s206_4.v, s206_5.v, s206_6.v, (.int .i64 x206_7), s206_8.v, s206_9.v, s206_10.v])] W14 fun v W17 => ∃ b207 : Bool, v = (.bool b207) ∧
                      R (.returned (.bool b207)) W17)) → L_3 x8 W14) →
                  L_3 0 W10)) → L_2 x7 W10) →
              L_2 0 W7)) → L_1 x6 W7) →
          L_1 0 W4)) → L x5 W4) →
      L 0 W3) → J W3) →
    ∀ J_2 : Bool → World → Prop, (∀ (b98 : Bool) W18, (
      Br b98
        (R (.returned (.bool false)) W18)
        (J W18)) → J_2 b98 W18) →
    ∃ x71 : Int, W2.cell? (q2.add 7) = some (.int .i64 x71) ∧
    ∃ x73 : Int, W2.cell? (q3.add 7) = some (.int .i64 x73) ∧
    ∃ s77 : Sl, (((x71 : Int) != x73) = false → W2.cell? (q2.add 2) = some s77.v) ∧
    ∃ s79 : Sl, (((x71 : Int) != x73) = false → W2.cell? (q3.add 2) = some s79.v) ∧
    (((x71 : Int) != x73) = false →
      CallV Tryd.prog 17 #[s77.v, s79.v] W2 fun v W19 => ∃ b80 : Bool, v = (.bool b80) ∧
      ∃ s85 : Sl, ((!b80) = false → W19.cell? (q2.add 3) = some s85.v) ∧
    ∃ s87 : Sl, ((!b80) = false → W19.cell? (q3.add 3) = some s87.v) ∧
    ((!b80) = false →
      CallV Tryd.prog 18 #[s85.v, s87.v] W19 fun v W20 => ∃ b88 : Bool, v = (.bool b88) ∧
      ∃ s93 : Sl, ((!b88) = false → W20.cell? (q2.add 4) = some s93.v) ∧
    ∃ s95 : Sl, ((!b88) = false → W20.cell? (q3.add 4) = some s95.v) ∧
    ((!b88) = false →
      CallV Tryd.prog 18 #[s93.v, s95.v] W20 fun v W21 => ∃ b96 : Bool, v = (.bool b96) ∧
      J_2 (!b96) W21) ∧
    ((!b88) = !false →
      J_2 true W20)) ∧
    ((!b80) = !false →
      ∃ s93_1 : Sl, (true = false → W19.cell? (q2.add 4) = some s93_1.v) ∧
    ∃ s95_1 : Sl, (true = false → W19.cell? (q3.add 4) = some s95_1.v) ∧
    (true = false →
      CallV Tryd.prog 18 #[s93_1.v, s95_1.v] W19 fun v W22 => ∃ b96_1 : Bool, v = (.bool b96_1) ∧
      J_2 (!b96_1) W22) ∧
    (true = !false →
      J_2 true W19))) ∧
    (((x71 : Int) != x73) = !false →
      ∃ s85_1 : Sl, (true = false → W2.cell? (q2.add 3) = some s85_1.v) ∧
    ∃ s87_1 : Sl, (true = false → W2.cell? (q3.add 3) = some s87_1.v) ∧
    (true = false →
      CallV Tryd.prog 18 #[s85_1.v, s87_1.v] W2 fun v W23 => ∃ b88_1 : Bool, v = (.bool b88_1) ∧
      ∃ s93_2 : Sl, ((!b88_1) = false → W23.cell? (q2.add 4) = some s93_2.v) ∧
    ∃ s95_2 : Sl, ((!b88_1) = false → W23.cell? (q3.add 4) = some s95_2.v) ∧
    ((!b88_1) = false →
      CallV Tryd.prog 18 #[s93_2.v, s95_2.v] W23 fun v W24 => ∃ b96_2 : Bool, v = (.bool b96_2) ∧
      J_2 (!b96_2) W24) ∧
    ((!b88_1) = !false →
      J_2 true W23)) ∧
    (true = !false →
      ∃ s93_3 : Sl, (true = false → W2.cell? (q2.add 4) = some s93_3.v) ∧
    ∃ s95_3 : Sl, (true = false → W2.cell? (q3.add 4) = some s95_3.v) ∧
    (true = false →
      CallV Tryd.prog 18 #[s93_3.v, s95_3.v] W2 fun v W25 => ∃ b96_3 : Bool, v = (.bool b96_3) ∧
      J_2 (!b96_3) W25) ∧
    (true = !false →
      J_2 true W2))))
theorem of_plaitref13_Same (s0_0 : Sl) (s0_1 : Sl) (s0_2 : Sl) (s0_3 : Sl) (s0_4 : Sl) (s0_5 : Sl) (s0_6 : Sl) (x0_7 : Int) (s0_8 : Sl) (s0_9 : Sl) (s0_10 : Sl) (s1_0 : Sl) (s1_1 : Sl) (s1_2 : Sl) (s1_3 : Sl) (s1_4 : Sl) (s1_5 : Sl) (s1_6 : Sl) (x1_7 : Int) (s1_8 : Sl) (s1_9 : Sl) (s1_10 : Sl) (W : World) (R : Ending → World → Prop) (h : V_plaitref13_Same s0_0 s0_1 s0_2 s0_3 s0_4 s0_5 s0_6 x0_7 s0_8 s0_9 s0_10 s1_0 s1_1 s1_2 s1_3 s1_4 s1_5 s1_6 x1_7 s1_8 s1_9 s1_10 W R) : Calls Tryd.prog 10 #[(.agg #[s0_0.v, s0_1.v, s0_2.v, s0_3.v, s0_4.v, s0_5.v, s0_6.v, (.int .i64 x0_7), s0_8.v, s0_9.v, s0_10.v]), (.agg #[s1_0.v, s1_1.v, s1_2.v, s1_3.v, s1_4.v, s1_5.v, s1_6.v, (.int .i64 x1_7), s1_8.v, s1_9.v, s1_10.v])] W R :=
  calls_of_vcF Tryd.mix Tryd.func10 (an := (.seq .nil (.seq (.seq .nil (.cond (.seq .nil .nil) .nil)) (.jn [] [4, 70, 71, 72, 73, 74, 75, 76, 77, 78, 79, 80, 81, 82, 83, 84, 85, 86, 87, 88, 89, 90, 91, 92, 93, 94, 95, 96, 97, 98] (.jn [(98, .bool)] [70, 71, 72, 73, 74, 75, 76, 77, 78, 79, 80, 81, 82, 83, 84, 85, 86, 87, 88, 89, 90, 91, 92, 93, 94, 95, 96, 97] .nil (.cond (.seq .nil .nil) .nil)) (.seq (.seq .nil (.blk (.lp [(5, .int .i64)] [4, 99, 100, 101, 102, 103, 104, 105, 106, 107, 108, 109, 110, 111, 112, 113, 114, 115, 116, 117] (.seq (.seq .nil (.cond .nil .nil)) (.seq (.blk (.seq .nil (.cond (.seq .nil .nil) .nil))) .nil))))) (.seq (.seq .nil (.blk (.lp [(6, .int .i64)] [4, 118, 119, 120, 121, 122, 123, 124, 125, 126, 127, 128, 129, 130, 131, 132, 133, 134, 135] (.seq (.seq .nil (.cond .nil .nil)) (.seq (.blk (.seq .nil (.cond (.seq .nil .nil) .nil))) .nil))))) (.seq (.seq .nil (.blk (.lp [(7, .int .i64)] [4, 136, 137, 138, 139, 140, 141, 142, 143, 144, 145, 146, 147, 148, 149, 150, 151, 152, 153, 154, 155, 156, 157, 158, 159, 160, 161, 162, 163, 164, 165, 166, 167, 168, 169, 170, 171, 172, 173, 174, 175, 176, 177, 178, 179, 180, 181, 182, 183, 184, 185, 186] (.seq (.seq .nil (.cond .nil .nil)) (.seq (.blk (.jn [(186, .bool)] [143, 144, 145, 146, 147, 148, 149, 150, 151, 152, 153, 154, 155, 156, 157, 158, 159, 160, 161, 162, 163, 164, 165, 166, 167, 168, 169, 170, 171, 172, 173, 174, 175, 176, 177, 178, 179, 180, 181, 182, 183, 184, 185] .nil (.cond (.seq .nil .nil) .nil))) .nil))))) (.seq (.seq .nil (.blk (.lp [(8, .int .i64)] [4, 187, 188, 189, 190, 191, 192, 193, 194, 195, 196, 197, 198, 199, 200, 201, 202, 203, 204] (.seq (.seq .nil (.cond .nil .nil)) (.seq (.blk (.seq .nil (.cond (.seq .nil .nil) .nil))) .nil))))) (.seq .nil .nil))))))))) (args := [(.agg #[s0_0.v, s0_1.v, s0_2.v, s0_3.v, s0_4.v, s0_5.v, s0_6.v, (.int .i64 x0_7), s0_8.v, s0_9.v, s0_10.v]), (.agg #[s1_0.v, s1_1.v, s1_2.v, s1_3.v, s1_4.v, s1_5.v, s1_6.v, (.int .i64 x1_7), s1_8.v, s1_9.v, s1_10.v])]) (Eq.mpr (by kernel_rfl : vcF Tryd.prog Tryd.f10 (.seq .nil (.seq (.seq .nil (.cond (.seq .nil .nil) .nil)) (.jn [] [4, 70, 71, 72, 73, 74, 75, 76, 77, 78, 79, 80, 81, 82, 83, 84, 85, 86, 87, 88, 89, 90, 91, 92, 93, 94, 95, 96, 97, 98] (.jn [(98, .bool)] [70, 71, 72, 73, 74, 75, 76, 77, 78, 79, 80, 81, 82, 83, 84, 85, 86, 87, 88, 89, 90, 91, 92, 93, 94, 95, 96, 97] .nil (.cond (.seq .nil .nil) .nil)) (.seq (.seq .nil (.blk (.lp [(5, .int .i64)] [4, 99, 100, 101, 102, 103, 104, 105, 106, 107, 108, 109, 110, 111, 112, 113, 114, 115, 116, 117] (.seq (.seq .nil (.cond .nil .nil)) (.seq (.blk (.seq .nil (.cond (.seq .nil .nil) .nil))) .nil))))) (.seq (.seq .nil (.blk (.lp [(6, .int .i64)] [4, 118, 119, 120, 121, 122, 123, 124, 125, 126, 127, 128, 129, 130, 131, 132, 133, 134, 135] (.seq (.seq .nil (.cond .nil .nil)) (.seq (.blk (.seq .nil (.cond (.seq .nil .nil) .nil))) .nil))))) (.seq (.seq .nil (.blk (.lp [(7, .int .i64)] [4, 136, 137, 138, 139, 140, 141, 142, 143, 144, 145, 146, 147, 148, 149, 150, 151, 152, 153, 154, 155, 156, 157, 158, 159, 160, 161, 162, 163, 164, 165, 166, 167, 168, 169, 170, 171, 172, 173, 174, 175, 176, 177, 178, 179, 180, 181, 182, 183, 184, 185, 186] (.seq (.seq .nil (.cond .nil .nil)) (.seq (.blk (.jn [(186, .bool)] [143, 144, 145, 146, 147, 148, 149, 150, 151, 152, 153, 154, 155, 156, 157, 158, 159, 160, 161, 162, 163, 164, 165, 166, 167, 168, 169, 170, 171, 172, 173, 174, 175, 176, 177, 178, 179, 180, 181, 182, 183, 184, 185] .nil (.cond (.seq .nil .nil) .nil))) .nil))))) (.seq (.seq .nil (.blk (.lp [(8, .int .i64)] [4, 187, 188, 189, 190, 191, 192, 193, 194, 195, 196, 197, 198, 199, 200, 201, 202, 203, 204] (.seq (.seq .nil (.cond .nil .nil)) (.seq (.blk (.seq .nil (.cond (.seq .nil .nil) .nil))) .nil))))) (.seq .nil .nil)))))))) [(.agg #[s0_0.v, s0_1.v, s0_2.v, s0_3.v, s0_4.v, s0_5.v, s0_6.v, (.int .i64 x0_7), s0_8.v, s0_9.v, s0_10.v]), (.agg #[s1_0.v, s1_1.v, s1_2.v, s1_3.v, s1_4.v, s1_5.v, s1_6.v, (.int .i64 x1_7), s1_8.v, s1_9.v, s1_10.v])] W R = V_plaitref13_Same s0_0 s0_1 s0_2 s0_3 s0_4 s0_5 s0_6 x0_7 s0_8 s0_9 s0_10 s1_0 s1_1 s1_2 s1_3 s1_4 s1_5 s1_6 x1_7 s1_8 s1_9 s1_10 W R) h)

/-- plait/plaitref13.SameSig -/
def V_plaitref13_SameSig (s0_0 : Sl) (s0_1 : Sl) (s1_0 : Sl) (s1_1 : Sl) (W : World) (R : Ending → World → Prop) : Prop :=
  Na W #[s0_0.v, s0_1.v] 37 fun q2 W1 =>
  Na W1 #[s1_0.v, s1_1.v] 37 fun q3 W2 =>
  ∃ s6 : Sl, W2.cell? (q2.add 0) = some s6.v ∧
  ∃ s8 : Sl, W2.cell? (q3.add 0) = some s8.v ∧
  CallV Tryd.prog 17 #[s6.v, s8.v] W2 fun v W3 => ∃ b9 : Bool, v = (.bool b9) ∧
  ∃ s12 : Sl, (b9 = true → W3.cell? (q2.add 1) = some s12.v) ∧
  ∃ s14 : Sl, (b9 = true → W3.cell? (q3.add 1) = some s14.v) ∧
  (b9 = true →
    CallV Tryd.prog 17 #[s12.v, s14.v] W3 fun v W4 => ∃ b15 : Bool, v = (.bool b15) ∧
    R (.returned (.bool b15)) W4) ∧
  (b9 = !true →
    R (.returned (.bool false)) W3)
theorem of_plaitref13_SameSig (s0_0 : Sl) (s0_1 : Sl) (s1_0 : Sl) (s1_1 : Sl) (W : World) (R : Ending → World → Prop) (h : V_plaitref13_SameSig s0_0 s0_1 s1_0 s1_1 W R) : Calls Tryd.prog 11 #[(.agg #[s0_0.v, s0_1.v]), (.agg #[s1_0.v, s1_1.v])] W R :=
  calls_of_vcF Tryd.mix Tryd.func11 (an := (.seq .nil (.seq .nil .nil))) (args := [(.agg #[s0_0.v, s0_1.v]), (.agg #[s1_0.v, s1_1.v])]) (Eq.mpr (by kernel_rfl : vcF Tryd.prog Tryd.f11 (.seq .nil (.seq .nil .nil)) [(.agg #[s0_0.v, s0_1.v]), (.agg #[s1_0.v, s1_1.v])] W R = V_plaitref13_SameSig s0_0 s0_1 s1_0 s1_1 W R) h)

/-- plait/plaitlaw15.body -/
def V_plaitlaw15_body (s0 : Sl) (s1 : Sl) (W : World) (R : Ending → World → Prop) : Prop :=
  Na W #[(.slice none 0 0), (.slice none 0 0), (.slice none 0 0), (.slice none 0 0), (.slice none 0 0), (.slice none 0 0), (.slice none 0 0), (.int .i64 0), (.slice none 0 0), (.slice none 0 0), (.slice none 0 0)] 32 fun q4 W1 =>
  Na W1 #[(.slice none 0 0), s0.v] 37 fun q7 W2 =>
  Na W2 #[(.int .i64 0)] 3 fun q8 W3 =>
  Na W3 #[] 40 fun q9 W4 =>
  RunV Tryd.prog (Builtin.append_ #[41, 41] 41 #[(.slice (some q9) 0 0), s1.v]) W4 fun v W5 => ∃ s11 : Sl, v = s11.v ∧
  Na W5 #[(.int .i64 11), (.int .i64 0), (.int .i64 0), (.int .u64 0), (.int .u64 0), (.slice none 0 0)] 40 fun q13 W6 =>
  RunV Tryd.prog (Builtin.append_ #[41, 41] 41 #[s11.v, (.slice (some q13) 1 1)]) W6 fun v W7 => ∃ s14 : Sl, v = s14.v ∧
  Na W7 #[(.slice none 0 0), s14.v] 46 fun q16 W8 =>
  stC W8 q4 [(.slice (some q7) 1 1), (.slice none 0 0), (.slice (some q8) 1 1), (.slice none 0 0), (.slice none 0 0), (.slice none 0 0), (.slice none 0 0), (.int .i64 (-1)), (.slice none 0 0), (.slice (some q16) 1 1), (.slice none 0 0)] 0 fun W9 =>
  ∃ sr4_0 : Sl, W9.cell? (q4.add 0) = some sr4_0.v ∧
  ∃ sr4_1 : Sl, W9.cell? (q4.add 1) = some sr4_1.v ∧
  ∃ sr4_2 : Sl, W9.cell? (q4.add 2) = some sr4_2.v ∧
  ∃ sr4_3 : Sl, W9.cell? (q4.add 3) = some sr4_3.v ∧
  ∃ sr4_4 : Sl, W9.cell? (q4.add 4) = some sr4_4.v ∧
  ∃ sr4_5 : Sl, W9.cell? (q4.add 5) = some sr4_5.v ∧
  ∃ sr4_6 : Sl, W9.cell? (q4.add 6) = some sr4_6.v ∧
  ∃ xr4_7 : Int, W9.cell? (q4.add 7) = some (.int .i64 xr4_7) ∧
  ∃ sr4_8 : Sl, W9.cell? (q4.add 8) = some sr4_8.v ∧
  ∃ sr4_9 : Sl, W9.cell? (q4.add 9) = some sr4_9.v ∧
  ∃ sr4_10 : Sl, W9.cell? (q4.add 10) = some sr4_10.v ∧
  R (.returned (.agg #[sr4_0.v, sr4_1.v, sr4_2.v, sr4_3.v, sr4_4.v, sr4_5.v, sr4_6.v, (.int .i64 xr4_7), sr4_8.v, sr4_9.v, sr4_10.v])) W9
theorem of_plaitlaw15_body (s0 : Sl) (s1 : Sl) (W : World) (R : Ending → World → Prop) (h : V_plaitlaw15_body s0 s1 W R) : Calls Tryd.prog 12 #[s0.v, s1.v] W R :=
  calls_of_vcF Tryd.mix Tryd.func12 (an := (.seq .nil (.seq .nil .nil))) (args := [s0.v, s1.v]) (Eq.mpr (by kernel_rfl : vcF Tryd.prog Tryd.f12 (.seq .nil (.seq .nil .nil)) [s0.v, s1.v] W R = V_plaitlaw15_body s0 s1 W R) h)

/-- plait/encode.Encode -/
def V_encode_Encode (s0_0 : Sl) (s0_1 : Sl) (s0_2 : Sl) (s0_3 : Sl) (s0_4 : Sl) (s0_5 : Sl) (s0_6 : Sl) (x0_7 : Int) (s0_8 : Sl) (s0_9 : Sl) (s0_10 : Sl) (W : World) (R : Ending → World → Prop) : Prop :=
  Na W #[s0_0.v, s0_1.v, s0_2.v, s0_3.v, s0_4.v, s0_5.v, s0_6.v, (.int .i64 x0_7), s0_8.v, s0_9.v, s0_10.v] 32 fun q1 W1 =>
  Na W1 #[(.int .u8 0), (.int .u8 97), (.int .u8 115), (.int .u8 109), (.int .u8 1), (.int .u8 0), (.int .u8 0), (.int .u8 0)] 5 fun q6 W2 =>
  RunV Tryd.prog (convert 59 59 (.slice (some q6) 8 8)) W2 fun v W3 => ∃ s7 : Sl, v = s7.v ∧
  Na W3 #[s7.v, (.bool false)] 74 fun q9 W4 =>
  ∃ s12 : Sl, W4.cell? (q1.add 2) = some s12.v ∧
  ∃ s15 : Sl, W4.cell? (q1.add 9) = some s15.v ∧
  CallV Tryd.prog 21 #[(.pointer (some q9)), (.bool (((s12.len : Int) : Int) == (s15.len : Int)))] W4 fun v W5 => v = (.tuple #[]) ∧
  ∃ s21 : Sl, W5.cell? (q1.add 0) = some s21.v ∧
  CallV Tryd.prog 22 #[(.pointer (some q9)), (.int .u8 1), (.int .i64 256), s21.v, (.func (.func 23) #[] #[])] W5 fun v W6 => v = (.tuple #[]) ∧
  ∃ s25 : Sl, W6.cell? (q1.add 1) = some s25.v ∧
  CallV Tryd.prog 27 #[(.pointer (some q9)), (.int .u8 2), (.int .i64 512), s25.v, (.func (.func 28) #[] #[])] W6 fun v W7 => v = (.tuple #[]) ∧
  ∃ s29 : Sl, W7.cell? (q1.add 2) = some s29.v ∧
  CallV Tryd.prog 30 #[(.pointer (some q9)), (.int .u8 3), (.int .i64 512), s29.v, (.func (.func 31) #[] #[])] W7 fun v W8 => v = (.tuple #[]) ∧
  ∃ s33 : Sl, W8.cell? (q1.add 3) = some s33.v ∧
  CallV Tryd.prog 32 #[(.pointer (some q9)), (.int .u8 4), (.int .i64 512), s33.v, (.func (.func 33) #[] #[])] W8 fun v W9 => v = (.tuple #[]) ∧
  ∃ s37 : Sl, W9.cell? (q1.add 4) = some s37.v ∧
  CallV Tryd.prog 32 #[(.pointer (some q9)), (.int .u8 5), (.int .i64 512), s37.v, (.func (.func 35) #[] #[])] W9 fun v W10 => v = (.tuple #[]) ∧
  ∃ s41 : Sl, W10.cell? (q1.add 5) = some s41.v ∧
  CallV Tryd.prog 36 #[(.pointer (some q9)), (.int .u8 6), (.int .i64 512), s41.v, (.func (.func 37) #[] #[])] W10 fun v W11 => v = (.tuple #[]) ∧
  ∃ s45 : Sl, W11.cell? (q1.add 6) = some s45.v ∧
  CallV Tryd.prog 38 #[(.pointer (some q9)), (.int .u8 7), (.int .i64 512), s45.v, (.func (.func 39) #[] #[])] W11 fun v W12 => v = (.tuple #[]) ∧
  ∃ x49 : Int, W12.cell? (q1.add 7) = some (.int .i64 x49) ∧
  CallV Tryd.prog 21 #[(.pointer (some q9)), (.bool (decide ((x49 : Int) ≥ (-1))))] W12 fun v W13 => v = (.tuple #[]) ∧
  ∀ J : World → Prop, (∀ W14, (
    ∃ s67 : Sl, W14.cell? (q1.add 8) = some s67.v ∧
    CallV Tryd.prog 41 #[(.pointer (some q9)), (.int .u8 9), (.int .i64 512), s67.v, (.func (.func 42) #[] #[])] W14 fun v W15 => v = (.tuple #[]) ∧
    ∃ s71 : Sl, W15.cell? (q1.add 9) = some s71.v ∧
    CallV Tryd.prog 44 #[(.pointer (some q9)), (.int .u8 10), (.int .i64 512), s71.v, (.func (.func 45) #[] #[])] W15 fun v W16 => v = (.tuple #[]) ∧
    ∃ s75 : Sl, W16.cell? (q1.add 10) = some s75.v ∧
    CallV Tryd.prog 46 #[(.pointer (some q9)), (.int .u8 11), (.int .i64 512), s75.v, (.func (.func 47) #[] #[])] W16 fun v W17 => v = (.tuple #[]) ∧
    ∃ q79 : Addr, (some q9) = some q79 ∧
    ∃ b81 : Bool, W17.cell? (q79.add 1) = some (.bool b81) ∧
    Br b81
      (R (.returned (.tuple #[(.slice none 0 0), (.int .i64 1)])) W17)
      (∃ q84 : Addr, (some q9) = some q84 ∧
      ∃ s86 : Sl, W17.cell? (q84.add 0) = some s86.v ∧
      Br (decide (((s86.len : Int) : Int) > 16384))
        (R (.returned (.tuple #[(.slice none 0 0), (.int .i64 4)])) W17)
        (∃ q90 : Addr, (some q9) = some q90 ∧
        ∃ s92 : Sl, W17.cell? (q90.add 0) = some s92.v ∧
        R (.returned (.tuple #[s92.v, (.int .i64 0)])) W17))) → J W14) →
  ∃ x53 : Int, W13.cell? (q1.add 7) = some (.int .i64 x53) ∧
  Br (decide ((x53 : Int) ≥ 0))
    (Na W13 #[(.slice none 0 0), (.bool false)] 74 fun q56 W18 =>
    ∃ x59 : Int, W18.cell? (q1.add 7) = some (.int .i64 x59) ∧
    Na W18 #[(.int .i64 x59)] 3 fun q60 W19 =>
    CallV Tryd.prog 25 #[(.pointer (some q56)), (.slice (some q60) 1 1)] W19 fun v W20 => v = (.tuple #[]) ∧
    CallV Tryd.prog 40 #[(.pointer (some q9)), (.int .u8 8), (.pointer (some q56))] W20 fun v W21 => v = (.tuple #[]) ∧
    J W21)
    (J W13)
theorem of_encode_Encode (s0_0 : Sl) (s0_1 : Sl) (s0_2 : Sl) (s0_3 : Sl) (s0_4 : Sl) (s0_5 : Sl) (s0_6 : Sl) (x0_7 : Int) (s0_8 : Sl) (s0_9 : Sl) (s0_10 : Sl) (W : World) (R : Ending → World → Prop) (h : V_encode_Encode s0_0 s0_1 s0_2 s0_3 s0_4 s0_5 s0_6 x0_7 s0_8 s0_9 s0_10 W R) : Calls Tryd.prog 13 #[(.agg #[s0_0.v, s0_1.v, s0_2.v, s0_3.v, s0_4.v, s0_5.v, s0_6.v, (.int .i64 x0_7), s0_8.v, s0_9.v, s0_10.v])] W R :=
  calls_of_vcF Tryd.mix Tryd.func13 (an := (.seq .nil (.seq .nil (.seq .nil (.seq .nil (.seq .nil (.seq .nil (.seq .nil (.seq .nil (.seq .nil (.seq .nil (.seq .nil (.jn [] [5, 52, 53, 54, 55, 56, 57, 58, 59, 60, 61, 62, 63, 64] (.seq .nil (.cond (.seq .nil (.seq .nil .nil)) .nil)) (.seq .nil (.seq .nil (.seq .nil (.seq (.blk (.seq .nil (.cond (.seq .nil .nil) (.seq .nil (.cond (.seq .nil .nil) .nil))))) (.seq .nil .nil)))))))))))))))))) (args := [(.agg #[s0_0.v, s0_1.v, s0_2.v, s0_3.v, s0_4.v, s0_5.v, s0_6.v, (.int .i64 x0_7), s0_8.v, s0_9.v, s0_10.v])]) (Eq.mpr (by kernel_rfl : vcF Tryd.prog Tryd.f13 (.seq .nil (.seq .nil (.seq .nil (.seq .nil (.seq .nil (.seq .nil (.seq .nil (.seq .nil (.seq .nil (.seq .nil (.seq .nil (.jn [] [5, 52, 53, 54, 55, 56, 57, 58, 59, 60, 61, 62, 63, 64] (.seq .nil (.cond (.seq .nil (.seq .nil .nil)) .nil)) (.seq .nil (.seq .nil (.seq .nil (.seq (.blk (.seq .nil (.cond (.seq .nil .nil) (.seq .nil (.cond (.seq .nil .nil) .nil))))) (.seq .nil .nil))))))))))))))))) [(.agg #[s0_0.v, s0_1.v, s0_2.v, s0_3.v, s0_4.v, s0_5.v, s0_6.v, (.int .i64 x0_7), s0_8.v, s0_9.v, s0_10.v])] W R = V_encode_Encode s0_0 s0_1 s0_2 s0_3 s0_4 s0_5 s0_6 x0_7 s0_8 s0_9 s0_10 W R) h)

/-- plait/valid.outer -/
def V_valid_outer (s0_0 : Sl) (s0_1 : Sl) (s0_2 : Sl) (s0_3 : Sl) (s0_4 : Sl) (s0_5 : Sl) (s0_6 : Sl) (x0_7 : Int) (s0_8 : Sl) (s0_9 : Sl) (s0_10 : Sl) (W : World) (R : Ending → World → Prop) : Prop :=
  Na W #[s0_0.v, s0_1.v, s0_2.v, s0_3.v, s0_4.v, s0_5.v, s0_6.v, (.int .i64 x0_7), s0_8.v, s0_9.v, s0_10.v] 32 fun q1 W1 =>
  ∃ s12 : Sl, W1.cell? (q1.add 1) = some s12.v ∧
  ∃ s15 : Sl, W1.cell? (q1.add 2) = some s15.v ∧
  ∀ L : Int → World → Prop, (∀ (x19 : Int) W2, (
    Br (decide ((x19 : Int) < (IntKind.wrap .i64 ((s12.len : Int) + (s15.len : Int)))))
      (∃ s23_0 : Sl, W2.cell? (q1.add 0) = some s23_0.v ∧
      ∃ s23_1 : Sl, W2.cell? (q1.add 1) = some s23_1.v ∧
      ∃ s23_2 : Sl, W2.cell? (q1.add 2) = some s23_2.v ∧
      ∃ s23_3 : Sl, W2.cell? (q1.add 3) = some s23_3.v ∧
      ∃ s23_4 : Sl, W2.cell? (q1.add 4) = some s23_4.v ∧
      ∃ s23_5 : Sl, W2.cell? (q1.add 5) = some s23_5.v ∧
      ∃ s23_6 : Sl, W2.cell? (q1.add 6) = some s23_6.v ∧
      ∃ x23_7 : Int, W2.cell? (q1.add 7) = some (.int .i64 x23_7) ∧
      ∃ s23_8 : Sl, W2.cell? (q1.add 8) = some s23_8.v ∧
      ∃ s23_9 : Sl, W2.cell? (q1.add 9) = some s23_9.v ∧
      ∃ s23_10 : Sl, W2.cell? (q1.add 10) = some s23_10.v ∧
      CallV Tryd.prog 7 #[(.agg #[s23_0.v, s23_1.v, s23_2.v, s23_3.v, s23_4.v, s23_5.v, s23_6.v, (.int .i64 x23_7), s23_8.v, s23_9.v, s23_10.v]), (.int .i64 x19)] W2 fun v W3 => ∃ s25_0_0 : Sl, ∃ s25_0_1 : Sl, ∃ b25_1 : Bool, v = (.tuple #[(.agg #[s25_0_0.v, s25_0_1.v]), (.bool b25_1)]) ∧
      Na W3 #[(.slice none 0 0), (.slice none 0 0)] 37 fun q5 W4 =>
      stC W4 q5 [s25_0_0.v, s25_0_1.v] 0 fun W5 =>
      Br (!b25_1)
        (R (.returned (.bool false)) W5)
        (L (IntKind.wrap .i64 (x19 + 1)) W5))
      (∃ s32 : Sl, W2.cell? (q1.add 3) = some s32.v ∧
      ∃ s37 : Sl, ((decide (((s32.len : Int) : Int) > 1)) = false → W2.cell? (q1.add 4) = some s37.v) ∧
      Br ((decide (((s32.len : Int) : Int) > 1)) || (decide (((s37.len : Int) : Int) > 1)))
        (R (.returned (.bool false)) W2)
        (∃ s42 : Sl, W2.cell? (q1.add 3) = some s42.v ∧
        ∃ s44 : Sl, W2.cell? (q1.add 4) = some s44.v ∧
        Na W2 #[s42.v, s44.v] 25 fun q45 W6 =>
        CallV Tryd.prog 48 #[(.slice (some q45) 2 2)] W6 fun v W7 => ∃ s46 : Sl, v = s46.v ∧
        ∀ L_1 : Int → World → Prop, (∀ (x48 : Int) W8, (
          Br (decide ((x48 : Int) < (s46.len : Int)))
            (∃ q50 : Addr, (s46.a = some q50 ∧ (0 : Int) ≤ x48 ∧ x48 < (s46.len : Int)) ∧
            ∃ x51_0 : Int, W8.cell? ((q50.add ((x48 : Int).toNat * 2)).add 0) = some (.int .i64 x51_0) ∧
            ∃ x51_1 : Int, W8.cell? ((q50.add ((x48 : Int).toNat * 2)).add 1) = some (.int .i64 x51_1) ∧
            Na W8 #[(.int .i64 0), (.int .i64 0)] 87 fun q8 W9 =>
            stC W9 q8 [(.int .i64 x51_0), (.int .i64 x51_1)] 0 fun W10 =>
            ∃ x53 : Int, W10.cell? (q8.add 1) = some (.int .i64 x53) ∧
            ∃ x57 : Int, (((x53 : Int) != (-1)) = true → W10.cell? (q8.add 1) = some (.int .i64 x57)) ∧
            ∃ x59 : Int, (((x53 : Int) != (-1)) = true → W10.cell? (q8.add 0) = some (.int .i64 x59)) ∧
            Br (((x53 : Int) != (-1)) && (decide ((x57 : Int) < x59)))
              (R (.returned (.bool false)) W10)
              (L_1 (IntKind.wrap .i64 (x48 + 1)) W10))
            (∃ s64 : Sl, W8.cell? (q1.add 4) = some s64.v ∧
            ∃ s69 : Sl, ((((s64.len : Int) : Int) == 1) = true → W8.cell? (q1.add 4) = some s69.v) ∧
            ∃ q70 : Addr, ((((s64.len : Int) : Int) == 1) = true → (s69.a = some q70 ∧ (0 : Int) ≤ 0 ∧ 0 < (s69.len : Int))) ∧
            ∃ x72 : Int, ((((s64.len : Int) : Int) == 1) = true → W8.cell? ((q70.add ((0 : Int).toNat * 2)).add 1) = some (.int .i64 x72)) ∧
            Br ((((s64.len : Int) : Int) == 1) && (decide ((x72 : Int) > 65536)))
              (R (.returned (.bool false)) W8)
              (∃ s76 : Sl, W8.cell? (q1.add 5) = some s76.v ∧
              ∀ L_2 : Int → World → Prop, (∀ (x78 : Int) W11, (
                Br (decide ((x78 : Int) < (s76.len : Int)))
                  (∃ q80 : Addr, (s76.a = some q80 ∧ (0 : Int) ≤ x78 ∧ x78 < (s76.len : Int)) ∧
                  ∃ x81_0 : Int, W11.cell? ((q80.add ((x78 : Int).toNat * 3)).add 0) = some (.int .i64 x81_0) ∧
                  ∃ b81_1 : Bool, W11.cell? ((q80.add ((x78 : Int).toNat * 3)).add 1) = some (.bool b81_1) ∧
                  ∃ s81_2 : Sl, W11.cell? ((q80.add ((x78 : Int).toNat * 3)).add 2) = some s81_2.v ∧
                  Na W11 #[(.int .i64 0), (.bool false), (.slice none 0 0)] 43 fun q10 W12 =>
                  stC W12 q10 [(.int .i64 x81_0), (.bool b81_1), s81_2.v] 0 fun W13 =>
                  ∃ s83 : Sl, W13.cell? (q10.add 2) = some s83.v ∧
                  ∃ x85 : Int, W13.cell? (q10.add 0) = some (.int .i64 x85) ∧
                  CallV Tryd.prog 49 #[s83.v, (.int .i64 x85)] W13 fun v W14 => ∃ b86 : Bool, v = (.bool b86) ∧
                  Br (!b86)
                    (R (.returned (.bool false)) W14)
                    (L_2 (IntKind.wrap .i64 (x78 + 1)) W14))
                  (∃ s89_0 : Sl, W11.cell? (q1.add 0) = some s89_0.v ∧
                  ∃ s89_1 : Sl, W11.cell? (q1.add 1) = some s89_1.v ∧
                  ∃ s89_2 : Sl, W11.cell? (q1.add 2) = some s89_2.v ∧
                  ∃ s89_3 : Sl, W11.cell? (q1.add 3) = some s89_3.v ∧
                  ∃ s89_4 : Sl, W11.cell? (q1.add 4) = some s89_4.v ∧
                  ∃ s89_5 : Sl, W11.cell? (q1.add 5) = some s89_5.v ∧
                  ∃ s89_6 : Sl, W11.cell? (q1.add 6) = some s89_6.v ∧
                  ∃ x89_7 : Int, W11.cell? (q1.add 7) = some (.int .i64 x89_7) ∧
                  ∃ s89_8 : Sl, W11.cell? (q1.add 8) = some s89_8.v ∧
                  ∃ s89_9 : Sl, W11.cell? (q1.add 9) = some s89_9.v ∧
                  ∃ s89_10 : Sl, W11.cell? (q1.add 10) = some s89_10.v ∧
                  CallV Tryd.prog 50 #[(.agg #[s89_0.v, s89_1.v, s89_2.v, s89_3.v, s89_4.v, s89_5.v, s89_6.v, (.int .i64 x89_7), s89_8.v, s89_9.v, s89_10.v]), (.int .i64 (IntKind.wrap .i64 ((s12.len : Int) + (s15.len : Int))))] W11 fun v W15 => ∃ b91 : Bool, v = (.bool b91) ∧
                  ∃ s93_0 : Sl, (b91 = true → W15.cell? (q1.add 0) = some s93_0.v) ∧
                  ∃ s93_1 : Sl, (b91 = true → W15.cell? (q1.add 1) = some s93_1.v) ∧
                  ∃ s93_2 : Sl, (b91 = true → W15.cell? (q1.add 2) = some s93_2.v) ∧
                  ∃ s93_3 : Sl, (b91 = true → W15.cell? (q1.add 3) = some s93_3.v) ∧
                  ∃ s93_4 : Sl, (b91 = true → W15.cell? (q1.add 4) = some s93_4.v) ∧
                  ∃ s93_5 : Sl, (b91 = true → W15.cell? (q1.add 5) = some s93_5.v) ∧
                  ∃ s93_6 : Sl, (b91 = true → W15.cell? (q1.add 6) = some s93_6.v) ∧
                  ∃ x93_7 : Int, (b91 = true → W15.cell? (q1.add 7) = some (.int .i64 x93_7)) ∧
                  ∃ s93_8 : Sl, (b91 = true → W15.cell? (q1.add 8) = some s93_8.v) ∧
                  ∃ s93_9 : Sl, (b91 = true → W15.cell? (q1.add 9) = some s93_9.v) ∧
                  ∃ s93_10 : Sl, (b91 = true → W15.cell? (q1.add 10) = some s93_10.v) ∧
                  (b91 = true →
                    CallV Tryd.prog 51 #[(.agg #[s93_0.v, s93_1.v, s93_2.v, s93_3.v, s93_4.v, s93_5.v, s93_6.v, (.int .i64 x93_7), s93_8.v, s93_9.v, s93_10.v]), (.int .i64 (IntKind.wrap .i64 ((s12.len : Int) + (s15.len : Int))))] W15 fun v W16 => ∃ b95 : Bool, v = (.bool b95) ∧
                    R (.returned (.bool b95)) W16) ∧
                  (b91 = !true →
                    R (.returned (.bool false)) W15))) → L_2 x78 W11) →
              L_2 0 W8))) → L_1 x48 W8) →
        L_1 0 W7))) → L x19 W2) →
  L 0 W1
theorem of_valid_outer (s0_0 : Sl) (s0_1 : Sl) (s0_2 : Sl) (s0_3 : Sl) (s0_4 : Sl) (s0_5 : Sl) (s0_6 : Sl) (x0_7 : Int) (s0_8 : Sl) (s0_9 : Sl) (s0_10 : Sl) (W : World) (R : Ending → World → Prop) (h : V_valid_outer s0_0 s0_1 s0_2 s0_3 s0_4 s0_5 s0_6 x0_7 s0_8 s0_9 s0_10 W R) : Calls Tryd.prog 14 #[(.agg #[s0_0.v, s0_1.v, s0_2.v, s0_3.v, s0_4.v, s0_5.v, s0_6.v, (.int .i64 x0_7), s0_8.v, s0_9.v, s0_10.v])] W R :=
  calls_of_vcF Tryd.mix Tryd.func14 (an := (.seq .nil (.seq .nil (.seq (.seq .nil (.blk (.lp [(19, .int .i64)] [2, 4, 5, 6, 20, 21, 22, 23, 24, 25, 26, 27, 28, 29, 30] (.seq .nil (.seq (.cond .nil .nil) (.seq (.blk (.seq .nil (.seq .nil (.seq .nil (.cond (.seq .nil .nil) .nil))))) .nil)))))) (.seq (.seq .nil (.cond (.seq .nil .nil) .nil)) (.seq (.seq .nil (.blk (.lp [(48, .int .i64)] [2, 8, 49, 50, 51, 52, 53, 54, 55, 56, 57, 58, 59, 60, 61, 62] (.seq .nil (.seq (.cond .nil .nil) (.seq (.blk (.seq .nil (.seq .nil (.cond (.seq .nil .nil) .nil)))) .nil)))))) (.seq (.seq .nil (.cond (.seq .nil .nil) .nil)) (.seq (.seq .nil (.blk (.lp [(78, .int .i64)] [2, 10, 79, 80, 81, 82, 83, 84, 85, 86, 87, 88] (.seq .nil (.seq (.cond .nil .nil) (.seq (.blk (.seq .nil (.seq .nil (.cond (.seq .nil .nil) .nil)))) .nil)))))) (.seq .nil .nil))))))))) (args := [(.agg #[s0_0.v, s0_1.v, s0_2.v, s0_3.v, s0_4.v, s0_5.v, s0_6.v, (.int .i64 x0_7), s0_8.v, s0_9.v, s0_10.v])]) (Eq.mpr (by kernel_rfl : vcF Tryd.prog Tryd.f14 (.seq .nil (.seq .nil (.seq (.seq .nil (.blk (.lp [(19, .int .i64)] [2, 4, 5, 6, 20, 21, 22, 23, 24, 25, 26, 27, 28, 29, 30] (.seq .nil (.seq (.cond .nil .nil) (.seq (.blk (.seq .nil (.seq .nil (.seq .nil (.cond (.seq .nil .nil) .nil))))) .nil)))))) (.seq (.seq .nil (.cond (.seq .nil .nil) .nil)) (.seq (.seq .nil (.blk (.lp [(48, .int .i64)] [2, 8, 49, 50, 51, 52, 53, 54, 55, 56, 57, 58, 59, 60, 61, 62] (.seq .nil (.seq (.cond .nil .nil) (.seq (.blk (.seq .nil (.seq .nil (.cond (.seq .nil .nil) .nil)))) .nil)))))) (.seq (.seq .nil (.cond (.seq .nil .nil) .nil)) (.seq (.seq .nil (.blk (.lp [(78, .int .i64)] [2, 10, 79, 80, 81, 82, 83, 84, 85, 86, 87, 88] (.seq .nil (.seq (.cond .nil .nil) (.seq (.blk (.seq .nil (.seq .nil (.cond (.seq .nil .nil) .nil)))) .nil)))))) (.seq .nil .nil)))))))) [(.agg #[s0_0.v, s0_1.v, s0_2.v, s0_3.v, s0_4.v, s0_5.v, s0_6.v, (.int .i64 x0_7), s0_8.v, s0_9.v, s0_10.v])] W R = V_valid_outer s0_0 s0_1 s0_2 s0_3 s0_4 s0_5 s0_6 x0_7 s0_8 s0_9 s0_10 W R) h)

/-- plait/valid.typed -/
def V_valid_typed (s0_0 : Sl) (s0_1 : Sl) (s0_2 : Sl) (s0_3 : Sl) (s0_4 : Sl) (s0_5 : Sl) (s0_6 : Sl) (x0_7 : Int) (s0_8 : Sl) (s0_9 : Sl) (s0_10 : Sl) (x1 : Int) (W : World) (R : Ending → World → Prop) : Prop :=
  Na W #[s0_0.v, s0_1.v, s0_2.v, s0_3.v, s0_4.v, s0_5.v, s0_6.v, (.int .i64 x0_7), s0_8.v, s0_9.v, s0_10.v] 32 fun q2 W1 =>
  ∃ s17_0 : Sl, W1.cell? (q2.add 0) = some s17_0.v ∧
  ∃ s17_1 : Sl, W1.cell? (q2.add 1) = some s17_1.v ∧
  ∃ s17_2 : Sl, W1.cell? (q2.add 2) = some s17_2.v ∧
  ∃ s17_3 : Sl, W1.cell? (q2.add 3) = some s17_3.v ∧
  ∃ s17_4 : Sl, W1.cell? (q2.add 4) = some s17_4.v ∧
  ∃ s17_5 : Sl, W1.cell? (q2.add 5) = some s17_5.v ∧
  ∃ s17_6 : Sl, W1.cell? (q2.add 6) = some s17_6.v ∧
  ∃ x17_7 : Int, W1.cell? (q2.add 7) = some (.int .i64 x17_7) ∧
  ∃ s17_8 : Sl, W1.cell? (q2.add 8) = some s17_8.v ∧
  ∃ s17_9 : Sl, W1.cell? (q2.add 9) = some s17_9.v ∧
  ∃ s17_10 : Sl, W1.cell? (q2.add 10) = some s17_10.v ∧
  ∃ s19 : Sl, W1.cell? (q2.add 1) = some s19.v ∧
  CallV Tryd.prog 7 #[(.agg #[s17_0.v, s17_1.v, s17_2.v, s17_3.v, s17_4.v, s17_5.v, s17_6.v, (.int .i64 x17_7), s17_8.v, s17_9.v, s17_10.v]), (.int .i64 (IntKind.wrap .i64 ((s19.len : Int) + x1)))] W1 fun v W2 => ∃ s23_0_0 : Sl, ∃ s23_0_1 : Sl, ∃ b23_1 : Bool, v = (.tuple #[(.agg #[s23_0_0.v, s23_0_1.v]), (.bool b23_1)]) ∧
  Na W2 #[(.slice none 0 0), (.slice none 0 0)] 37 fun q6 W3 =>
  stC W3 q6 [s23_0_0.v, s23_0_1.v] 0 fun W4 =>
  Dw W4 fun W5 =>
  ∃ S : World → Prop, S W5 ∧
  ∃ s26_0 : Sl, (∀ w, S w → w.cell? (q2.add 0) = some s26_0.v) ∧
  ∃ s26_1 : Sl, (∀ w, S w → w.cell? (q2.add 1) = some s26_1.v) ∧
  ∃ s26_2 : Sl, (∀ w, S w → w.cell? (q2.add 2) = some s26_2.v) ∧
  ∃ s26_3 : Sl, (∀ w, S w → w.cell? (q2.add 3) = some s26_3.v) ∧
  ∃ s26_4 : Sl, (∀ w, S w → w.cell? (q2.add 4) = some s26_4.v) ∧
  ∃ s26_5 : Sl, (∀ w, S w → w.cell? (q2.add 5) = some s26_5.v) ∧
  ∃ s26_6 : Sl, (∀ w, S w → w.cell? (q2.add 6) = some s26_6.v) ∧
  ∃ x26_7 : Int, (∀ w, S w → w.cell? (q2.add 7) = some (.int .i64 x26_7)) ∧
  ∃ s26_8 : Sl, (∀ w, S w → w.cell? (q2.add 8) = some s26_8.v) ∧
  ∃ s26_9 : Sl, (∀ w, S w → w.cell? (q2.add 9) = some s26_9.v) ∧
  ∃ s26_10 : Sl, (∀ w, S w → w.cell? (q2.add 10) = some s26_10.v) ∧
  ∃ s28 : Sl, (∀ w, S w → w.cell? (q6.add 0) = some s28.v) ∧
  ∃ s30 : Sl, (∀ w, S w → w.cell? (q2.add 9) = some s30.v) ∧
  ∃ q32 : Addr, (s30.a = some q32 ∧ (0 : Int) ≤ x1 ∧ x1 < (s30.len : Int)) ∧
  ∃ s34 : Sl, (∀ w, S w → w.cell? ((q32.add ((x1 : Int).toNat * 2)).add 0) = some s34.v) ∧
  Na W5 #[s28.v, s34.v] 24 fun q35 W6 =>
  S W6 ∧
  CallV Tryd.prog 52 #[(.slice (some q35) 2 2)] W6 fun v W7 => ∃ s36 : Sl, v = s36.v ∧
  S W7 ∧
  Na W7 #[s26_0.v, s26_1.v, s26_2.v, s26_3.v, s26_4.v, s26_5.v, s26_6.v, (.int .i64 x26_7), s26_8.v, s26_9.v, s26_10.v, s36.v, (.slice none 0 0), (.slice none 0 0), (.bool false)] 112 fun q38 W8 =>
  S W8 ∧
  ∃ s41 : Sl, W8.cell? (q6.add 1) = some s41.v ∧
  CallV Tryd.prog 53 #[(.pointer (some q38)), (.int .i64 2), (.agg #[(.slice none 0 0), s41.v])] W8 fun v W9 => v = (.tuple #[]) ∧
  ∃ s45 : Sl, W9.cell? (q2.add 9) = some s45.v ∧
  ∃ q47 : Addr, (s45.a = some q47 ∧ (0 : Int) ≤ x1 ∧ x1 < (s45.len : Int)) ∧
  ∃ s49 : Sl, W9.cell? ((q47.add ((x1 : Int).toNat * 2)).add 1) = some s49.v ∧
  RunV Tryd.prog (Instr.makeSlice 50 (.int .i64 (s49.len : Int)) (.int .i64 (s49.len : Int))) W9 fun v W10 => ∃ s51 : Sl, v = s51.v ∧
  ∃ s53 : Sl, W10.cell? (q2.add 9) = some s53.v ∧
  ∃ q55 : Addr, (s53.a = some q55 ∧ (0 : Int) ≤ x1 ∧ x1 < (s53.len : Int)) ∧
  ∃ s57 : Sl, W10.cell? ((q55.add ((x1 : Int).toNat * 2)).add 1) = some s57.v ∧
  ∀ L : Int → World → Prop, (∀ (x59 : Int) W11, (
    Br (decide ((x59 : Int) < (s57.len : Int)))
      (∃ q62 : Addr, (s57.a = some q62 ∧ (0 : Int) ≤ x59 ∧ x59 < (s57.len : Int)) ∧
      ∃ x63_0 : Int, W11.cell? ((q62.add ((x59 : Int).toNat * 6)).add 0) = some (.int .i64 x63_0) ∧
      ∃ x63_1 : Int, W11.cell? ((q62.add ((x59 : Int).toNat * 6)).add 1) = some (.int .i64 x63_1) ∧
      ∃ x63_2 : Int, W11.cell? ((q62.add ((x59 : Int).toNat * 6)).add 2) = some (.int .i64 x63_2) ∧
      ∃ x63_3 : Int, W11.cell? ((q62.add ((x59 : Int).toNat * 6)).add 3) = some (.int .u64 x63_3) ∧
      ∃ x63_4 : Int, W11.cell? ((q62.add ((x59 : Int).toNat * 6)).add 4) = some (.int .u64 x63_4) ∧
      ∃ s63_5 : Sl, W11.cell? ((q62.add ((x59 : Int).toNat * 6)).add 5) = some s63_5.v ∧
      Na W11 #[(.int .i64 0), (.int .i64 0), (.int .i64 0), (.int .u64 0), (.int .u64 0), (.slice none 0 0)] 40 fun q12 W12 =>
      stC W12 q12 [(.int .i64 x63_0), (.int .i64 x63_1), (.int .i64 x63_2), (.int .u64 x63_3), (.int .u64 x63_4), s63_5.v] 0 fun W13 =>
      CallV Tryd.prog 54 #[(.pointer (some q38))] W13 fun v W14 => ∃ p65 : Option Addr, v = (.pointer p65) ∧
      ∃ q67 : Addr, p65 = some q67 ∧
      ∃ b69 : Bool, W14.cell? (q67.add 5) = some (.bool b69) ∧
      ∃ q72 : Addr, (b69 = true → p65 = some q72) ∧
      ∃ b74 : Bool, (b69 = true → W14.cell? (q72.add 4) = some (.bool b74)) ∧
      Br (b69 && (!b74))
        (∃ q78 : Addr, (some q38) = some q78 ∧
        ∃ s80 : Sl, W14.cell? (q78.add 12) = some s80.v ∧
        ∀ L_1 : Int → Int → World → Prop, (∀ (x10 : Int) (x82 : Int) W15, (
          Br (decide ((x82 : Int) < (s80.len : Int)))
            (∃ q84 : Addr, (s80.a = some q84 ∧ (0 : Int) ≤ x82 ∧ x82 < (s80.len : Int)) ∧
            ∃ x85 : Int, W15.cell? (q84.add ((x82 : Int).toNat * 1)) = some (.int .i64 x85) ∧
            Br ((x85 : Int) == 123)
              (L_1 (IntKind.wrap .i64 (x10 + 1)) (IntKind.wrap .i64 (x82 + 1)) W15)
              (L_1 x10 (IntKind.wrap .i64 (x82 + 1)) W15))
            (∃ q94 : Addr, (some q38) = some q94 ∧
            ∃ s96 : Sl, W15.cell? (q94.add 12) = some s96.v ∧
            ∃ q100 : Addr, (s51.a = some q100 ∧ (0 : Int) ≤ x59 ∧ x59 < (s51.len : Int)) ∧
            stC W15 (q100.add ((x59 : Int).toNat * 3)) [(.bool true), (.int .i64 (s96.len : Int)), (.int .i64 x10)] 0 fun W16 =>
            ∃ x102_0 : Int, W16.cell? (q12.add 0) = some (.int .i64 x102_0) ∧
            ∃ x102_1 : Int, W16.cell? (q12.add 1) = some (.int .i64 x102_1) ∧
            ∃ x102_2 : Int, W16.cell? (q12.add 2) = some (.int .i64 x102_2) ∧
            ∃ x102_3 : Int, W16.cell? (q12.add 3) = some (.int .u64 x102_3) ∧
            ∃ x102_4 : Int, W16.cell? (q12.add 4) = some (.int .u64 x102_4) ∧
            ∃ s102_5 : Sl, W16.cell? (q12.add 5) = some s102_5.v ∧
            CallV Tryd.prog 55 #[(.pointer (some q38)), (.agg #[(.int .i64 x102_0), (.int .i64 x102_1), (.int .i64 x102_2), (.int .u64 x102_3), (.int .u64 x102_4), s102_5.v])] W16 fun v W17 => v = (.tuple #[]) ∧
            ∃ q105 : Addr, (some q38) = some q105 ∧
            ∃ b107 : Bool, W17.cell? (q105.add 14) = some (.bool b107) ∧
            Br b107
              (R (.returned (.tuple #[(.slice none 0 0), (.bool false)])) W17)
              (L (IntKind.wrap .i64 (x59 + 1)) W17))) → L_1 x10 x82 W15) →
        L_1 0 0 W14)
        (∃ x102_0_1 : Int, W14.cell? (q12.add 0) = some (.int .i64 x102_0_1) ∧
        ∃ x102_1_1 : Int, W14.cell? (q12.add 1) = some (.int .i64 x102_1_1) ∧
        ∃ x102_2_1 : Int, W14.cell? (q12.add 2) = some (.int .i64 x102_2_1) ∧
        ∃ x102_3_1 : Int, W14.cell? (q12.add 3) = some (.int .u64 x102_3_1) ∧
        ∃ x102_4_1 : Int, W14.cell? (q12.add 4) = some (.int .u64 x102_4_1) ∧
        ∃ s102_5_1 : Sl, W14.cell? (q12.add 5) = some s102_5_1.v ∧
        CallV Tryd.prog 55 #[(.pointer (some q38)), (.agg #[(.int .i64 x102_0_1), (.int .i64 x102_1_1), (.int .i64 x102_2_1), (.int .u64 x102_3_1), (.int .u64 x102_4_1), s102_5_1.v])] W14 fun v W18 => v = (.tuple #[]) ∧
        ∃ q105_1 : Addr, (some q38) = some q105_1 ∧
        ∃ b107_1 : Bool, W18.cell? (q105_1.add 14) = some (.bool b107_1) ∧
        Br b107_1
          (R (.returned (.tuple #[(.slice none 0 0), (.bool false)])) W18)
          (L (IntKind.wrap .i64 (x59 + 1)) W18)))
      (R (.returned (.tuple #[s51.v, (.bool true)])) W11)) → L x59 W11) →
  L 0 W10
theorem of_valid_typed (s0_0 : Sl) (s0_1 : Sl) (s0_2 : Sl) (s0_3 : Sl) (s0_4 : Sl) (s0_5 : Sl) (s0_6 : Sl) (x0_7 : Int) (s0_8 : Sl) (s0_9 : Sl) (s0_10 : Sl) (x1 : Int) (W : World) (R : Ending → World → Prop) (h : V_valid_typed s0_0 s0_1 s0_2 s0_3 s0_4 s0_5 s0_6 x0_7 s0_8 s0_9 s0_10 x1 W R) : Calls Tryd.prog 15 #[(.agg #[s0_0.v, s0_1.v, s0_2.v, s0_3.v, s0_4.v, s0_5.v, s0_6.v, (.int .i64 x0_7), s0_8.v, s0_9.v, s0_10.v]), (.int .i64 x1)] W R :=
  calls_of_vcF Tryd.mix Tryd.func15 (an := (.seq .nil (.seq .nil (.seq .nil (.seq .nil (.seq .nil (.seq .nil (.seq (.seq .nil (.blk (.lp [(59, .int .i64)] [4, 5, 10, 11, 12, 13, 15, 60, 61, 62, 63, 64, 65, 66, 67, 68, 69, 70, 71, 72, 73, 74, 75, 76, 77, 78, 79, 80, 81, 82, 83, 84, 85, 86, 87, 88, 89, 90, 91, 92, 93, 94, 95, 96, 97, 98, 99, 100, 101, 102, 103, 104, 105, 106, 107, 108] (.seq .nil (.seq (.cond .nil .nil) (.seq (.blk (.seq .nil (.seq (.seq .nil (.seq .nil (.cond (.seq .nil (.seq (.seq .nil (.blk (.lp [(10, .int .i64), (82, .int .i64)] [15, 83, 84, 85, 86, 87, 88, 89, 90] (.seq .nil (.seq (.cond .nil .nil) (.seq (.blk (.seq .nil (.seq .nil (.cond .nil .nil)))) .nil)))))) .nil)) .nil))) (.seq .nil (.seq .nil (.cond (.seq .nil .nil) .nil)))))) .nil)))))) (.seq .nil .nil))))))))) (args := [(.agg #[s0_0.v, s0_1.v, s0_2.v, s0_3.v, s0_4.v, s0_5.v, s0_6.v, (.int .i64 x0_7), s0_8.v, s0_9.v, s0_10.v]), (.int .i64 x1)]) (Eq.mpr (by kernel_rfl : vcF Tryd.prog Tryd.f15 (.seq .nil (.seq .nil (.seq .nil (.seq .nil (.seq .nil (.seq .nil (.seq (.seq .nil (.blk (.lp [(59, .int .i64)] [4, 5, 10, 11, 12, 13, 15, 60, 61, 62, 63, 64, 65, 66, 67, 68, 69, 70, 71, 72, 73, 74, 75, 76, 77, 78, 79, 80, 81, 82, 83, 84, 85, 86, 87, 88, 89, 90, 91, 92, 93, 94, 95, 96, 97, 98, 99, 100, 101, 102, 103, 104, 105, 106, 107, 108] (.seq .nil (.seq (.cond .nil .nil) (.seq (.blk (.seq .nil (.seq (.seq .nil (.seq .nil (.cond (.seq .nil (.seq (.seq .nil (.blk (.lp [(10, .int .i64), (82, .int .i64)] [15, 83, 84, 85, 86, 87, 88, 89, 90] (.seq .nil (.seq (.cond .nil .nil) (.seq (.blk (.seq .nil (.seq .nil (.cond .nil .nil)))) .nil)))))) .nil)) .nil))) (.seq .nil (.seq .nil (.cond (.seq .nil .nil) .nil)))))) .nil)))))) (.seq .nil .nil)))))))) [(.agg #[s0_0.v, s0_1.v, s0_2.v, s0_3.v, s0_4.v, s0_5.v, s0_6.v, (.int .i64 x0_7), s0_8.v, s0_9.v, s0_10.v]), (.int .i64 x1)] W R = V_valid_typed s0_0 s0_1 s0_2 s0_3 s0_4 s0_5 s0_6 x0_7 s0_8 s0_9 s0_10 x1 W R) h)

/-- plait/valid.kind -/
def V_valid_kind (s0_0 : Sl) (s0_1 : Sl) (s0_2 : Sl) (s0_3 : Sl) (s0_4 : Sl) (s0_5 : Sl) (s0_6 : Sl) (x0_7 : Int) (s0_8 : Sl) (s0_9 : Sl) (s0_10 : Sl) (x1 : Int) (W : World) (R : Ending → World → Prop) : Prop :=
  Na W #[s0_0.v, s0_1.v, s0_2.v, s0_3.v, s0_4.v, s0_5.v, s0_6.v, (.int .i64 x0_7), s0_8.v, s0_9.v, s0_10.v] 32 fun q2 W1 =>
  Na W1 #[(.slice none 0 0), (.slice none 0 0)] 37 fun q4 W2 =>
  ∃ s12 : Sl, ((decide ((x1 : Int) < 0)) = false → W2.cell? (q2.add 0) = some s12.v) ∧
  Br ((decide ((x1 : Int) < 0)) || (decide ((x1 : Int) ≥ (s12.len : Int))))
    (stC W2 q4 [(.slice none 0 0), (.slice none 0 0)] 0 fun W3 =>
    ∃ sr4_0 : Sl, W3.cell? (q4.add 0) = some sr4_0.v ∧
    ∃ sr4_1 : Sl, W3.cell? (q4.add 1) = some sr4_1.v ∧
    R (.returned (.tuple #[(.agg #[sr4_0.v, sr4_1.v]), (.bool false)])) W3)
    (∃ s18 : Sl, W2.cell? (q2.add 0) = some s18.v ∧
    ∃ q20 : Addr, (s18.a = some q20 ∧ (0 : Int) ≤ x1 ∧ x1 < (s18.len : Int)) ∧
    ∃ s21_0 : Sl, W2.cell? ((q20.add ((x1 : Int).toNat * 2)).add 0) = some s21_0.v ∧
    ∃ s21_1 : Sl, W2.cell? ((q20.add ((x1 : Int).toNat * 2)).add 1) = some s21_1.v ∧
    Na W2 #[(.slice none 0 0), (.slice none 0 0)] 37 fun q6 W4 =>
    stC W4 q6 [s21_0.v, s21_1.v] 0 fun W5 =>
    Dw W5 fun W6 =>
    ∃ S : World → Prop, S W6 ∧
    ∃ s23 : Sl, (∀ w, S w → w.cell? (q6.add 0) = some s23.v) ∧
    ∃ s26 : Sl, (∀ w, S w → w.cell? (q6.add 1) = some s26.v) ∧
    CallV Tryd.prog 56 #[s23.v] W6 fun v W7 => ∃ s24 : Sl, v = s24.v ∧
    S W7 ∧
    CallV Tryd.prog 56 #[s26.v] W7 fun v W8 => ∃ s27 : Sl, v = s27.v ∧
    S W8 ∧
    stC W8 q4 [s24.v, s27.v] 0 fun W9 =>
    ∃ sr4_0_1 : Sl, W9.cell? (q4.add 0) = some sr4_0_1.v ∧
    ∃ sr4_1_1 : Sl, W9.cell? (q4.add 1) = some sr4_1_1.v ∧
    R (.returned (.tuple #[(.agg #[sr4_0_1.v, sr4_1_1.v]), (.bool true)])) W9)
theorem of_valid_kind (s0_0 : Sl) (s0_1 : Sl) (s0_2 : Sl) (s0_3 : Sl) (s0_4 : Sl) (s0_5 : Sl) (s0_6 : Sl) (x0_7 : Int) (s0_8 : Sl) (s0_9 : Sl) (s0_10 : Sl) (x1 : Int) (W : World) (R : Ending → World → Prop) (h : V_valid_kind s0_0 s0_1 s0_2 s0_3 s0_4 s0_5 s0_6 x0_7 s0_8 s0_9 s0_10 x1 W R) : Calls Tryd.prog 16 #[(.agg #[s0_0.v, s0_1.v, s0_2.v, s0_3.v, s0_4.v, s0_5.v, s0_6.v, (.int .i64 x0_7), s0_8.v, s0_9.v, s0_10.v]), (.int .i64 x1)] W R :=
  calls_of_vcF Tryd.mix Tryd.func16 (an := (.seq .nil (.seq (.seq .nil (.cond (.seq .nil .nil) .nil)) (.seq .nil (.seq .nil .nil))))) (args := [(.agg #[s0_0.v, s0_1.v, s0_2.v, s0_3.v, s0_4.v, s0_5.v, s0_6.v, (.int .i64 x0_7), s0_8.v, s0_9.v, s0_10.v]), (.int .i64 x1)]) (Eq.mpr (by kernel_rfl : vcF Tryd.prog Tryd.f16 (.seq .nil (.seq (.seq .nil (.cond (.seq .nil .nil) .nil)) (.seq .nil (.seq .nil .nil)))) [(.agg #[s0_0.v, s0_1.v, s0_2.v, s0_3.v, s0_4.v, s0_5.v, s0_6.v, (.int .i64 x0_7), s0_8.v, s0_9.v, s0_10.v]), (.int .i64 x1)] W R = V_valid_kind s0_0 s0_1 s0_2 s0_3 s0_4 s0_5 s0_6 x0_7 s0_8 s0_9 s0_10 x1 W R) h)

/-- plait/plaitref04.SameTypes -/
def V_plaitref04_SameTypes (s0 : Sl) (s1 : Sl) (W : World) (R : Ending → World → Prop) : Prop :=
  Br (((s0.len : Int) : Int) != (s1.len : Int))
    (R (.returned (.bool false)) W)
    (∀ L : Int → World → Prop, (∀ (x5 : Int) W1, (
      Br (decide ((x5 : Int) < (s0.len : Int)))
        (Dw W1 fun W2 =>
        ∃ q19 : Addr, (s0.a = some q19 ∧ (0 : Int) ≤ x5 ∧ x5 < (s0.len : Int)) ∧
        ∃ x20 : Int, W2.cell? (q19.add ((x5 : Int).toNat * 1)) = some (.int .i64 x20) ∧
        ∃ q23 : Addr, (s1.a = some q23 ∧ (0 : Int) ≤ x5 ∧ x5 < (s1.len : Int)) ∧
        ∃ x24 : Int, W2.cell? (q23.add ((x5 : Int).toNat * 1)) = some (.int .i64 x24) ∧
        Br ((x20 : Int) != x24)
          (R (.returned (.bool false)) W2)
          (L (IntKind.wrap .i64 (x5 + 1)) W2))
        (R (.returned (.bool true)) W1)) → L x5 W1) →
    L 0 W)
theorem of_plaitref04_SameTypes (s0 : Sl) (s1 : Sl) (W : World) (R : Ending → World → Prop) (h : V_plaitref04_SameTypes s0 s1 W R) : Calls Tryd.prog 17 #[s0.v, s1.v] W R :=
  calls_of_vcF Tryd.mix Tryd.func17 (an := (.seq .nil (.seq (.seq .nil (.cond (.seq .nil .nil) .nil)) (.seq (.seq .nil (.blk (.lp [(5, .int .i64)] [4, 11, 12, 13, 14, 15, 16, 17, 18, 19, 20, 21, 22, 23, 24, 25] (.seq (.seq .nil (.cond .nil .nil)) (.seq (.blk (.seq .nil (.cond (.seq .nil .nil) .nil))) .nil))))) (.seq .nil .nil))))) (args := [s0.v, s1.v]) (Eq.mpr (by kernel_rfl : vcF Tryd.prog Tryd.f17 (.seq .nil (.seq (.seq .nil (.cond (.seq .nil .nil) .nil)) (.seq (.seq .nil (.blk (.lp [(5, .int .i64)] [4, 11, 12, 13, 14, 15, 16, 17, 18, 19, 20, 21, 22, 23, 24, 25] (.seq (.seq .nil (.cond .nil .nil)) (.seq (.blk (.seq .nil (.cond (.seq .nil .nil) .nil))) .nil))))) (.seq .nil .nil)))) [s0.v, s1.v] W R = V_plaitref04_SameTypes s0 s1 W R) h)

/-- plait/plaitref13.sameLimits -/
def V_plaitref13_sameLimits (s0 : Sl) (s1 : Sl) (W : World) (R : Ending → World → Prop) : Prop :=
  Br (((s0.len : Int) : Int) != (s1.len : Int))
    (R (.returned (.bool false)) W)
    (∀ L : Int → World → Prop, (∀ (x5 : Int) W1, (
      Br (decide ((x5 : Int) < (s0.len : Int)))
        (Dw W1 fun W2 =>
        ∃ q19 : Addr, (s0.a = some q19 ∧ (0 : Int) ≤ x5 ∧ x5 < (s0.len : Int)) ∧
        ∃ x20_0 : Int, W2.cell? ((q19.add ((x5 : Int).toNat * 2)).add 0) = some (.int .i64 x20_0) ∧
        ∃ x20_1 : Int, W2.cell? ((q19.add ((x5 : Int).toNat * 2)).add 1) = some (.int .i64 x20_1) ∧
        ∃ q23 : Addr, (s1.a = some q23 ∧ (0 : Int) ≤ x5 ∧ x5 < (s1.len : Int)) ∧
        ∃ x24_0 : Int, W2.cell? ((q23.add ((x5 : Int).toNat * 2)).add 0) = some (.int .i64 x24_0) ∧
        ∃ x24_1 : Int, W2.cell? ((q23.add ((x5 : Int).toNat * 2)).add 1) = some (.int .i64 x24_1) ∧
        RunV Tryd.prog (do eqGuard .neq 87 (.tmp 20) (.tmp 24) (.agg #[(.int .i64 x20_0), (.int .i64 x20_1)]) (.agg #[(.int .i64 x24_0), (.int .i64 x24_1)]); binOp .neq 87 (.agg #[(.int .i64 x20_0), (.int .i64 x20_1)]) (.agg #[(.int .i64 x24_0), (.int .i64 x24_1)])) W2 fun v W3 => asB v fun b25 =>
        Br b25
          (R (.returned (.bool false)) W3)
          (L (IntKind.wrap .i64 (x5 + 1)) W3))
        (R (.returned (.bool true)) W1)) → L x5 W1) →
    L 0 W)
theorem of_plaitref13_sameLimits (s0 : Sl) (s1 : Sl) (W : World) (R : Ending → World → Prop) (h : V_plaitref13_sameLimits s0 s1 W R) : Calls Tryd.prog 18 #[s0.v, s1.v] W R :=
  calls_of_vcF Tryd.mix Tryd.func18 (an := (.seq .nil (.seq (.seq .nil (.cond (.seq .nil .nil) .nil)) (.seq (.seq .nil (.blk (.lp [(5, .int .i64)] [4, 11, 12, 13, 14, 15, 16, 17, 18, 19, 20, 21, 22, 23, 24, 25] (.seq (.seq .nil (.cond .nil .nil)) (.seq (.blk (.seq .nil (.cond (.seq .nil .nil) .nil))) .nil))))) (.seq .nil .nil))))) (args := [s0.v, s1.v]) (Eq.mpr (by kernel_rfl : vcF Tryd.prog Tryd.f18 (.seq .nil (.seq (.seq .nil (.cond (.seq .nil .nil) .nil)) (.seq (.seq .nil (.blk (.lp [(5, .int .i64)] [4, 11, 12, 13, 14, 15, 16, 17, 18, 19, 20, 21, 22, 23, 24, 25] (.seq (.seq .nil (.cond .nil .nil)) (.seq (.blk (.seq .nil (.cond (.seq .nil .nil) .nil))) .nil))))) (.seq .nil .nil)))) [s0.v, s1.v] W R = V_plaitref13_sameLimits s0 s1 W R) h)

/-- plait/plaitref12.Same -/
def V_plaitref12_Same (s0 : Sl) (s1 : Sl) (W : World) (R : Ending → World → Prop) : Prop :=
  Br (((s0.len : Int) : Int) != (s1.len : Int))
    (R (.returned (.bool false)) W)
    (∀ L : Int → World → Prop, (∀ (x5 : Int) W1, (
      Br (decide ((x5 : Int) < (s0.len : Int)))
        (Dw W1 fun W2 =>
        ∃ q19 : Addr, (s0.a = some q19 ∧ (0 : Int) ≤ x5 ∧ x5 < (s0.len : Int)) ∧
        ∃ x20_0 : Int, W2.cell? ((q19.add ((x5 : Int).toNat * 6)).add 0) = some (.int .i64 x20_0) ∧
        ∃ x20_1 : Int, W2.cell? ((q19.add ((x5 : Int).toNat * 6)).add 1) = some (.int .i64 x20_1) ∧
        ∃ x20_2 : Int, W2.cell? ((q19.add ((x5 : Int).toNat * 6)).add 2) = some (.int .i64 x20_2) ∧
        ∃ x20_3 : Int, W2.cell? ((q19.add ((x5 : Int).toNat * 6)).add 3) = some (.int .u64 x20_3) ∧
        ∃ x20_4 : Int, W2.cell? ((q19.add ((x5 : Int).toNat * 6)).add 4) = some (.int .u64 x20_4) ∧
        ∃ s20_5 : Sl, W2.cell? ((q19.add ((x5 : Int).toNat * 6)).add 5) = some s20_5.v ∧
        ∃ q23 : Addr, (s1.a = some q23 ∧ (0 : Int) ≤ x5 ∧ x5 < (s1.len : Int)) ∧
        ∃ x24_0 : Int, W2.cell? ((q23.add ((x5 : Int).toNat * 6)).add 0) = some (.int .i64 x24_0) ∧
        ∃ x24_1 : Int, W2.cell? ((q23.add ((x5 : Int).toNat * 6)).add 1) = some (.int .i64 x24_1) ∧
        ∃ x24_2 : Int, W2.cell? ((q23.add ((x5 : Int).toNat * 6)).add 2) = some (.int .i64 x24_2) ∧
        ∃ x24_3 : Int, W2.cell? ((q23.add ((x5 : Int).toNat * 6)).add 3) = some (.int .u64 x24_3) ∧
        ∃ x24_4 : Int, W2.cell? ((q23.add ((x5 : Int).toNat * 6)).add 4) = some (.int .u64 x24_4) ∧
        ∃ s24_5 : Sl, W2.cell? ((q23.add ((x5 : Int).toNat * 6)).add 5) = some s24_5.v ∧
        CallV Tryd.prog 57 #[(.agg #[(.int .i64 x20_0), (.int .i64 x20_1), (.int .i64 x20_2), (.int .u64 x20_3), (.int .u64 x20_4), s20_5.v]), (.agg #[(.int .i64 x24_0), (.int .i64 x24_1), (.int .i64 x24_2), (.int .u64 x24_3), (.int .u64 x24_4), s24_5.v])] W2 fun v W3 => ∃ b25 : Bool, v = (.bool b25) ∧
        Br (!b25)
          (R (.returned (.bool false)) W3)
          (L (IntKind.wrap .i64 (x5 + 1)) W3))
        (R (.returned (.bool true)) W1)) → L x5 W1) →
    L 0 W)
theorem of_plaitref12_Same (s0 : Sl) (s1 : Sl) (W : World) (R : Ending → World → Prop) (h : V_plaitref12_Same s0 s1 W R) : Calls Tryd.prog 19 #[s0.v, s1.v] W R :=
  calls_of_vcF Tryd.mix Tryd.func19 (an := (.seq .nil (.seq (.seq .nil (.cond (.seq .nil .nil) .nil)) (.seq (.seq .nil (.blk (.lp [(5, .int .i64)] [4, 11, 12, 13, 14, 15, 16, 17, 18, 19, 20, 21, 22, 23, 24, 25, 26] (.seq (.seq .nil (.cond .nil .nil)) (.seq (.blk (.seq .nil (.cond (.seq .nil .nil) .nil))) .nil))))) (.seq .nil .nil))))) (args := [s0.v, s1.v]) (Eq.mpr (by kernel_rfl : vcF Tryd.prog Tryd.f19 (.seq .nil (.seq (.seq .nil (.cond (.seq .nil .nil) .nil)) (.seq (.seq .nil (.blk (.lp [(5, .int .i64)] [4, 11, 12, 13, 14, 15, 16, 17, 18, 19, 20, 21, 22, 23, 24, 25, 26] (.seq (.seq .nil (.cond .nil .nil)) (.seq (.blk (.seq .nil (.cond (.seq .nil .nil) .nil))) .nil))))) (.seq .nil .nil)))) [s0.v, s1.v] W R = V_plaitref12_Same s0 s1 W R) h)

/-- plait/plaitref13.rest -/
def V_plaitref13_rest (s0_0 : Sl) (s0_1 : Sl) (s0_2 : Sl) (s0_3 : Sl) (s0_4 : Sl) (s0_5 : Sl) (s0_6 : Sl) (x0_7 : Int) (s0_8 : Sl) (s0_9 : Sl) (s0_10 : Sl) (s1_0 : Sl) (s1_1 : Sl) (s1_2 : Sl) (s1_3 : Sl) (s1_4 : Sl) (s1_5 : Sl) (s1_6 : Sl) (x1_7 : Int) (s1_8 : Sl) (s1_9 : Sl) (s1_10 : Sl) (W : World) (R : Ending → World → Prop) : Prop :=
  Na W #[s0_0.v, s0_1.v, s0_2.v, s0_3.v, s0_4.v, s0_5.v, s0_6.v, (.int .i64 x0_7), s0_8.v, s0_9.v, s0_10.v] 32 fun q2 W1 =>
  Na W1 #[s1_0.v, s1_1.v, s1_2.v, s1_3.v, s1_4.v, s1_5.v, s1_6.v, (.int .i64 x1_7), s1_8.v, s1_9.v, s1_10.v] 32 fun q3 W2 =>
  ∀ L : Int → World → Prop, (∀ (x5 : Int) W3, (
    ∃ s10 : Sl, W3.cell? (q2.add 8) = some s10.v ∧
    Br (decide ((x5 : Int) < (s10.len : Int)))
      (∀ J : Bool → World → Prop, (∀ (b44 : Bool) W4, (
        Br b44
          (R (.returned (.bool false)) W4)
          (L (IntKind.wrap .i64 (x5 + 1)) W4)) → J b44 W4) →
      Dw W3 fun W5 =>
      ∃ S : World → Prop, S W5 ∧
      ∃ s16 : Sl, (∀ w, S w → w.cell? (q2.add 8) = some s16.v) ∧
      ∃ q18 : Addr, (s16.a = some q18 ∧ (0 : Int) ≤ x5 ∧ x5 < (s16.len : Int)) ∧
      ∃ s20 : Sl, (∀ w, S w → w.cell? ((q18.add ((x5 : Int).toNat * 2)).add 0) = some s20.v) ∧
      ∃ s22 : Sl, (∀ w, S w → w.cell? (q3.add 8) = some s22.v) ∧
      ∃ q24 : Addr, (s22.a = some q24 ∧ (0 : Int) ≤ x5 ∧ x5 < (s22.len : Int)) ∧
      ∃ s26 : Sl, (∀ w, S w → w.cell? ((q24.add ((x5 : Int).toNat * 2)).add 0) = some s26.v) ∧
      CallV Tryd.prog 19 #[s20.v, s26.v] W5 fun v W6 => ∃ b27 : Bool, v = (.bool b27) ∧
      S W6 ∧
      ∃ s31 : Sl, ((!b27) = false → (∀ w, S w → w.cell? (q2.add 8) = some s31.v)) ∧
      ∃ q33 : Addr, ((!b27) = false → (s31.a = some q33 ∧ (0 : Int) ≤ x5 ∧ x5 < (s31.len : Int))) ∧
      ∃ s35 : Sl, ((!b27) = false → (∀ w, S w → w.cell? ((q33.add ((x5 : Int).toNat * 2)).add 1) = some s35.v)) ∧
      ∃ s37 : Sl, ((!b27) = false → (∀ w, S w → w.cell? (q3.add 8) = some s37.v)) ∧
      ∃ q39 : Addr, ((!b27) = false → (s37.a = some q39 ∧ (0 : Int) ≤ x5 ∧ x5 < (s37.len : Int))) ∧
      ∃ s41 : Sl, ((!b27) = false → (∀ w, S w → w.cell? ((q39.add ((x5 : Int).toNat * 2)).add 1) = some s41.v)) ∧
      ((!b27) = false →
        CallV Tryd.prog 17 #[s35.v, s41.v] W6 fun v W7 => ∃ b42 : Bool, v = (.bool b42) ∧
        S W7 ∧
      J (!b42) W7) ∧
      ((!b27) = !false →
        S W6 ∧
      J true W6))
      (∀ L_1 : Int → World → Prop, (∀ (x6 : Int) W8, (
        ∃ s47 : Sl, W8.cell? (q2.add 9) = some s47.v ∧
        Br (decide ((x6 : Int) < (s47.len : Int)))
          (∀ J_1 : Bool → World → Prop, (∀ (b81 : Bool) W9, (
            Br b81
              (R (.returned (.bool false)) W9)
              (L_1 (IntKind.wrap .i64 (x6 + 1)) W9)) → J_1 b81 W9) →
          Dw W8 fun W10 =>
          ∃ S_1 : World → Prop, S_1 W10 ∧
          ∃ s53 : Sl, (∀ w, S_1 w → w.cell? (q2.add 9) = some s53.v) ∧
          ∃ q55 : Addr, (s53.a = some q55 ∧ (0 : Int) ≤ x6 ∧ x6 < (s53.len : Int)) ∧
          ∃ s57 : Sl, (∀ w, S_1 w → w.cell? ((q55.add ((x6 : Int).toNat * 2)).add 0) = some s57.v) ∧
          ∃ s59 : Sl, (∀ w, S_1 w → w.cell? (q3.add 9) = some s59.v) ∧
          ∃ q61 : Addr, (s59.a = some q61 ∧ (0 : Int) ≤ x6 ∧ x6 < (s59.len : Int)) ∧
          ∃ s63 : Sl, (∀ w, S_1 w → w.cell? ((q61.add ((x6 : Int).toNat * 2)).add 0) = some s63.v) ∧
          CallV Tryd.prog 17 #[s57.v, s63.v] W10 fun v W11 => ∃ b64 : Bool, v = (.bool b64) ∧
          S_1 W11 ∧
          ∃ s68 : Sl, ((!b64) = false → (∀ w, S_1 w → w.cell? (q2.add 9) = some s68.v)) ∧
          ∃ q70 : Addr, ((!b64) = false → (s68.a = some q70 ∧ (0 : Int) ≤ x6 ∧ x6 < (s68.len : Int))) ∧
          ∃ s72 : Sl, ((!b64) = false → (∀ w, S_1 w → w.cell? ((q70.add ((x6 : Int).toNat * 2)).add 1) = some s72.v)) ∧
          ∃ s74 : Sl, ((!b64) = false → (∀ w, S_1 w → w.cell? (q3.add 9) = some s74.v)) ∧
          ∃ q76 : Addr, ((!b64) = false → (s74.a = some q76 ∧ (0 : Int) ≤ x6 ∧ x6 < (s74.len : Int))) ∧
          ∃ s78 : Sl, ((!b64) = false → (∀ w, S_1 w → w.cell? ((q76.add ((x6 : Int).toNat * 2)).add 1) = some s78.v)) ∧
          ((!b64) = false →
            CallV Tryd.prog 19 #[s72.v, s78.v] W11 fun v W12 => ∃ b79 : Bool, v = (.bool b79) ∧
            S_1 W12 ∧
          J_1 (!b79) W12) ∧
          ((!b64) = !false →
            S_1 W11 ∧
          J_1 true W11))
          (∀ L_2 : Int → World → Prop, (∀ (x7 : Int) W13, (
            ∃ s84 : Sl, W13.cell? (q2.add 10) = some s84.v ∧
            Br (decide ((x7 : Int) < (s84.len : Int)))
              (∀ J_2 : Bool → World → Prop, (∀ (b119 : Bool) W14, (
                Br b119
                  (R (.returned (.bool false)) W14)
                  (L_2 (IntKind.wrap .i64 (x7 + 1)) W14)) → J_2 b119 W14) →
              Dw W13 fun W15 =>
              ∃ S_2 : World → Prop, S_2 W15 ∧
              ∃ s90 : Sl, (∀ w, S_2 w → w.cell? (q2.add 10) = some s90.v) ∧
              ∃ q92 : Addr, (s90.a = some q92 ∧ (0 : Int) ≤ x7 ∧ x7 < (s90.len : Int)) ∧
              ∃ s94 : Sl, (∀ w, S_2 w → w.cell? ((q92.add ((x7 : Int).toNat * 2)).add 0) = some s94.v) ∧
              ∃ s96 : Sl, (∀ w, S_2 w → w.cell? (q3.add 10) = some s96.v) ∧
              ∃ q98 : Addr, (s96.a = some q98 ∧ (0 : Int) ≤ x7 ∧ x7 < (s96.len : Int)) ∧
              ∃ s100 : Sl, (∀ w, S_2 w → w.cell? ((q98.add ((x7 : Int).toNat * 2)).add 0) = some s100.v) ∧
              CallV Tryd.prog 19 #[s94.v, s100.v] W15 fun v W16 => ∃ b101 : Bool, v = (.bool b101) ∧
              S_2 W16 ∧
              ∃ s105 : Sl, ((!b101) = false → (∀ w, S_2 w → w.cell? (q2.add 10) = some s105.v)) ∧
              ∃ q107 : Addr, ((!b101) = false → (s105.a = some q107 ∧ (0 : Int) ≤ x7 ∧ x7 < (s105.len : Int))) ∧
              ∃ s109 : Sl, ((!b101) = false → (∀ w, S_2 w → w.cell? ((q107.add ((x7 : Int).toNat * 2)).add 1) = some s109.v)) ∧
              ∃ s112 : Sl, ((!b101) = false → (∀ w, S_2 w → w.cell? (q3.add 10) = some s112.v)) ∧
              ∃ q114 : Addr, ((!b101) = false → (s112.a = some q114 ∧ (0 : Int) ≤ x7 ∧ x7 < (s112.len : Int))) ∧
              ∃ s116 : Sl, ((!b101) = false → (∀ w, S_2 w → w.cell? ((q114.add ((x7 : Int).toNat * 2)).add 1) = some s116.v)) ∧
              (((!b101) = false →
                RunV Tryd.prog (convert 59 9 s109.v) W16 fun v W17 => ∃ s110 : ByteArray, v = (.string s110) ∧
                S_2 W17 ∧
              RunV Tryd.prog (convert 59 9 s116.v) W17 fun v W18 => ∃ s117 : ByteArray, v = (.string s117) ∧
              S_2 W18 ∧
              J_2 (!(s110.toList == s117.toList)) W18) ∧
              ((!b101) = !false →
                S_2 W16 ∧
              J_2 true W16)) ∧
              (((!b101) = false →
                RunV Tryd.prog (convert 59 9 s116.v) W16 fun v W19 => ∃ s117_1 : ByteArray, v = (.string s117_1) ∧
                S_2 W19 ∧
              RunV Tryd.prog (convert 59 9 s109.v) W19 fun v W20 => ∃ s110_1 : ByteArray, v = (.string s110_1) ∧
              S_2 W20 ∧
              J_2 (!(s110_1.toList == s117_1.toList)) W20) ∧
              ((!b101) = !false →
                S_2 W16 ∧
              J_2 true W16)))
              (R (.returned (.bool true)) W13)) → L_2 x7 W13) →
          L_2 0 W8)) → L_1 x6 W8) →
      L_1 0 W3)) → L x5 W3) →
  L 0 W2
theorem of_plaitref13_rest (s0_0 : Sl) (s0_1 : Sl) (s0_2 : Sl) (s0_3 : Sl) (s0_4 : Sl) (s0_5 : Sl) (s0_6 : Sl) (x0_7 : Int) (s0_8 : Sl) (s0_9 : Sl) (s0_10 : Sl) (s1_0 : Sl) (s1_1 : Sl) (s1_2 : Sl) (s1_3 : Sl) (s1_4 : Sl) (s1_5 : Sl) (s1_6 : Sl) (x1_7 : Int) (s1_8 : Sl) (s1_9 : Sl) (s1_10 : Sl) (W : World) (R : Ending → World → Prop) (h : V_plaitref13_rest s0_0 s0_1 s0_2 s0_3 s0_4 s0_5 s0_6 x0_7 s0_8 s0_9 s0_10 s1_0 s1_1 s1_2 s1_3 s1_4 s1_5 s1_6 x1_7 s1_8 s1_9 s1_10 W R) : Calls Tryd.prog 20 #[(.agg #[s0_0.v, s0_1.v, s0_2.v, s0_3.v, s0_4.v, s0_5.v, s0_6.v, (.int .i64 x0_7), s0_8.v, s0_9.v, s0_10.v]), (.agg #[s1_0.v, s1_1.v, s1_2.v, s1_3.v, s1_4.v, s1_5.v, s1_6.v, (.int .i64 x1_7), s1_8.v, s1_9.v, s1_10.v])] W R :=
  calls_of_vcF Tryd.mix Tryd.func20 (an := (.seq .nil (.seq (.seq .nil (.blk (.lp [(5, .int .i64)] [4, 8, 9, 10, 11, 12, 13, 14, 15, 16, 17, 18, 19, 20, 21, 22, 23, 24, 25, 26, 27, 28, 29, 30, 31, 32, 33, 34, 35, 36, 37, 38, 39, 40, 41, 42, 43, 44] (.seq (.seq .nil (.cond .nil .nil)) (.seq (.blk (.jn [(44, .bool)] [15, 16, 17, 18, 19, 20, 21, 22, 23, 24, 25, 26, 27, 28, 29, 30, 31, 32, 33, 34, 35, 36, 37, 38, 39, 40, 41, 42, 43] .nil (.cond (.seq .nil .nil) .nil))) .nil))))) (.seq (.seq .nil (.blk (.lp [(6, .int .i64)] [4, 45, 46, 47, 48, 49, 50, 51, 52, 53, 54, 55, 56, 57, 58, 59, 60, 61, 62, 63, 64, 65, 66, 67, 68, 69, 70, 71, 72, 73, 74, 75, 76, 77, 78, 79, 80, 81] (.seq (.seq .nil (.cond .nil .nil)) (.seq (.blk (.jn [(81, .bool)] [52, 53, 54, 55, 56, 57, 58, 59, 60, 61, 62, 63, 64, 65, 66, 67, 68, 69, 70, 71, 72, 73, 74, 75, 76, 77, 78, 79, 80] .nil (.cond (.seq .nil .nil) .nil))) .nil))))) (.seq (.seq .nil (.blk (.lp [(7, .int .i64)] [4, 82, 83, 84, 85, 86, 87, 88, 89, 90, 91, 92, 93, 94, 95, 96, 97, 98, 99, 100, 101, 102, 103, 104, 105, 106, 107, 108, 109, 110, 111, 112, 113, 114, 115, 116, 117, 118, 119] (.seq (.seq .nil (.cond .nil .nil)) (.seq (.blk (.jn [(119, .bool)] [89, 90, 91, 92, 93, 94, 95, 96, 97, 98, 99, 100, 101, 102, 103, 104, 105, 106, 107, 108, 109, 110, 111, 112, 113, 114, 115, 116, 117, 118] .nil (.cond (.seq .nil .nil) .nil))) .nil))))) (.seq .nil .nil)))))) (args := [(.agg #[s0_0.v, s0_1.v, s0_2.v, s0_3.v, s0_4.v, s0_5.v, s0_6.v, (.int .i64 x0_7), s0_8.v, s0_9.v, s0_10.v]), (.agg #[s1_0.v, s1_1.v, s1_2.v, s1_3.v, s1_4.v, s1_5.v, s1_6.v, (.int .i64 x1_7), s1_8.v, s1_9.v, s1_10.v])]) (Eq.mpr (by kernel_rfl : vcF Tryd.prog Tryd.f20 (.seq .nil (.seq (.seq .nil (.blk (.lp [(5, .int .i64)] [4, 8, 9, 10, 11, 12, 13, 14, 15, 16, 17, 18, 19, 20, 21, 22, 23, 24, 25, 26, 27, 28, 29, 30, 31, 32, 33, 34, 35, 36, 37, 38, 39, 40, 41, 42, 43, 44] (.seq (.seq .nil (.cond .nil .nil)) (.seq (.blk (.jn [(44, .bool)] [15, 16, 17, 18, 19, 20, 21, 22, 23, 24, 25, 26, 27, 28, 29, 30, 31, 32, 33, 34, 35, 36, 37, 38, 39, 40, 41, 42, 43] .nil (.cond (.seq .nil .nil) .nil))) .nil))))) (.seq (.seq .nil (.blk (.lp [(6, .int .i64)] [4, 45, 46, 47, 48, 49, 50, 51, 52, 53, 54, 55, 56, 57, 58, 59, 60, 61, 62, 63, 64, 65, 66, 67, 68, 69, 70, 71, 72, 73, 74, 75, 76, 77, 78, 79, 80, 81] (.seq (.seq .nil (.cond .nil .nil)) (.seq (.blk (.jn [(81, .bool)] [52, 53, 54, 55, 56, 57, 58, 59, 60, 61, 62, 63, 64, 65, 66, 67, 68, 69, 70, 71, 72, 73, 74, 75, 76, 77, 78, 79, 80] .nil (.cond (.seq .nil .nil) .nil))) .nil))))) (.seq (.seq .nil (.blk (.lp [(7, .int .i64)] [4, 82, 83, 84, 85, 86, 87, 88, 89, 90, 91, 92, 93, 94, 95, 96, 97, 98, 99, 100, 101, 102, 103, 104, 105, 106, 107, 108, 109, 110, 111, 112, 113, 114, 115, 116, 117, 118, 119] (.seq (.seq .nil (.cond .nil .nil)) (.seq (.blk (.jn [(119, .bool)] [89, 90, 91, 92, 93, 94, 95, 96, 97, 98, 99, 100, 101, 102, 103, 104, 105, 106, 107, 108, 109, 110, 111, 112, 113, 114, 115, 116, 117, 118] .nil (.cond (.seq .nil .nil) .nil))) .nil))))) (.seq .nil .nil))))) [(.agg #[s0_0.v, s0_1.v, s0_2.v, s0_3.v, s0_4.v, s0_5.v, s0_6.v, (.int .i64 x0_7), s0_8.v, s0_9.v, s0_10.v]), (.agg #[s1_0.v, s1_1.v, s1_2.v, s1_3.v, s1_4.v, s1_5.v, s1_6.v, (.int .i64 x1_7), s1_8.v, s1_9.v, s1_10.v])] W R = V_plaitref13_rest s0_0 s0_1 s0_2 s0_3 s0_4 s0_5 s0_6 x0_7 s0_8 s0_9 s0_10 s1_0 s1_1 s1_2 s1_3 s1_4 s1_5 s1_6 x1_7 s1_8 s1_9 s1_10 W R) h)

/-- (*plait/encode.out).must -/
def V_encode_out_must (p0 : Option Addr) (b1 : Bool) (W : World) (R : Ending → World → Prop) : Prop :=
  ∃ q6 : Addr, p0 = some q6 ∧
  ∃ b8 : Bool, W.cell? (q6.add 1) = some (.bool b8) ∧
  ∃ q13 : Addr, p0 = some q13 ∧
  stC W (q13.add 1) [(.bool (b8 || (!b1)))] 0 fun W1 =>
  R (.returned (.tuple #[])) W1
theorem of_encode_out_must (p0 : Option Addr) (b1 : Bool) (W : World) (R : Ending → World → Prop) (h : V_encode_out_must p0 b1 W R) : Calls Tryd.prog 21 #[(.pointer p0), (.bool b1)] W R :=
  calls_of_vcF Tryd.mix Tryd.func21 (an := .nil) (args := [(.pointer p0), (.bool b1)]) (Eq.mpr (by kernel_rfl : vcF Tryd.prog Tryd.f21 .nil [(.pointer p0), (.bool b1)] W R = V_encode_out_must p0 b1 W R) h)

/-- plait/encode.section[plait/api.Sig] -/
def V_encode_section_Sig (p0 : Option Addr) (x1 : Int) (x2 : Int) (s3 : Sl) (g4 : Nat) (W : World) (R : Ending → World → Prop) : Prop :=
  CallV Tryd.prog 21 #[(.pointer p0), (.bool (decide (((s3.len : Int) : Int) ≤ x2)))] W fun v W1 => v = (.tuple #[]) ∧
  Br (((s3.len : Int) : Int) == 0)
    (R (.returned (.tuple #[])) W1)
    (∃ q23 : Addr, p0 = some q23 ∧
    ∃ b25 : Bool, W1.cell? (q23.add 1) = some (.bool b25) ∧
    Na W1 #[(.slice none 0 0), (.bool b25)] 74 fun q27 W2 =>
    Na W2 #[(.int .i64 (s3.len : Int))] 3 fun q31 W3 =>
    CallV Tryd.prog 25 #[(.pointer (some q27)), (.slice (some q31) 1 1)] W3 fun v W4 => v = (.tuple #[]) ∧
    ∀ L : Int → World → Prop, (∀ (x35 : Int) W5, (
      Br (decide ((x35 : Int) < (s3.len : Int)))
        (∃ q37 : Addr, (s3.a = some q37 ∧ (0 : Int) ≤ x35 ∧ x35 < (s3.len : Int)) ∧
        ∃ s38_0 : Sl, W5.cell? ((q37.add ((x35 : Int).toNat * 2)).add 0) = some s38_0.v ∧
        ∃ s38_1 : Sl, W5.cell? ((q37.add ((x35 : Int).toNat * 2)).add 1) = some s38_1.v ∧
        Na W5 #[(.slice none 0 0), (.slice none 0 0)] 37 fun q12 W6 =>
        stC W6 q12 [s38_0.v, s38_1.v] 0 fun W7 =>
        ∃ s41_0 : Sl, W7.cell? (q12.add 0) = some s41_0.v ∧
        ∃ s41_1 : Sl, W7.cell? (q12.add 1) = some s41_1.v ∧
        CallV Tryd.prog g4 #[(.pointer (some q27)), (.agg #[s41_0.v, s41_1.v])] W7 fun v W8 => v = (.tuple #[]) ∧
        L (IntKind.wrap .i64 (x35 + 1)) W8)
        (CallV Tryd.prog 40 #[(.pointer p0), (.int .u8 x1), (.pointer (some q27))] W5 fun v W9 => v = (.tuple #[]) ∧
        R (.returned (.tuple #[])) W9)) → L x35 W5) →
    L 0 W4)
theorem of_encode_section_Sig (p0 : Option Addr) (x1 : Int) (x2 : Int) (s3 : Sl) (g4 : Nat) (W : World) (R : Ending → World → Prop) (h : V_encode_section_Sig p0 x1 x2 s3 g4 W R) : Calls Tryd.prog 22 #[(.pointer p0), (.int .u8 x1), (.int .i64 x2), s3.v, (.func (.func g4) #[] #[])] W R :=
  calls_of_vcF Tryd.mix Tryd.func22 (an := (.seq .nil (.seq (.seq .nil (.cond .nil .nil)) (.seq .nil (.seq .nil (.seq (.seq .nil (.blk (.lp [(35, .int .i64)] [12, 36, 37, 38, 39, 40, 41, 42, 43] (.seq .nil (.seq (.cond .nil .nil) (.seq (.blk (.seq .nil .nil)) .nil)))))) .nil)))))) (args := [(.pointer p0), (.int .u8 x1), (.int .i64 x2), s3.v, (.func (.func g4) #[] #[])]) (Eq.mpr (by kernel_rfl : vcF Tryd.prog Tryd.f22 (.seq .nil (.seq (.seq .nil (.cond .nil .nil)) (.seq .nil (.seq .nil (.seq (.seq .nil (.blk (.lp [(35, .int .i64)] [12, 36, 37, 38, 39, 40, 41, 42, 43] (.seq .nil (.seq (.cond .nil .nil) (.seq (.blk (.seq .nil .nil)) .nil)))))) .nil))))) [(.pointer p0), (.int .u8 x1), (.int .i64 x2), s3.v, (.func (.func g4) #[] #[])] W R = V_encode_section_Sig p0 x1 x2 s3 g4 W R) h)

/-- plait/encode.Encode$1 -/
def V_encode_Encode_1 (p0 : Option Addr) (s1_0 : Sl) (s1_1 : Sl) (W : World) (R : Ending → World → Prop) : Prop :=
  Na W #[s1_0.v, s1_1.v] 37 fun q3 W1 =>
  ∃ s6 : Sl, W1.cell? (q3.add 0) = some s6.v ∧
  ∃ s11 : Sl, ((decide (((s6.len : Int) : Int) ≤ 32)) = true → W1.cell? (q3.add 1) = some s11.v) ∧
  CallV Tryd.prog 21 #[(.pointer p0), (.bool ((decide (((s6.len : Int) : Int) ≤ 32)) && (decide (((s11.len : Int) : Int) ≤ 32))))] W1 fun v W2 => v = (.tuple #[]) ∧
  Na W2 #[(.int .u8 96)] 5 fun q17 W3 =>
  CallV Tryd.prog 24 #[(.pointer p0), (.slice (some q17) 1 1)] W3 fun v W4 => v = (.tuple #[]) ∧
  ∃ s21 : Sl, W4.cell? (q3.add 0) = some s21.v ∧
  Na W4 #[(.int .i64 (s21.len : Int))] 3 fun q23 W5 =>
  CallV Tryd.prog 25 #[(.pointer p0), (.slice (some q23) 1 1)] W5 fun v W6 => v = (.tuple #[]) ∧
  ∃ s27 : Sl, W6.cell? (q3.add 0) = some s27.v ∧
  CallV Tryd.prog 26 #[(.pointer p0), s27.v] W6 fun v W7 => v = (.tuple #[]) ∧
  ∃ s31 : Sl, W7.cell? (q3.add 1) = some s31.v ∧
  Na W7 #[(.int .i64 (s31.len : Int))] 3 fun q33 W8 =>
  CallV Tryd.prog 25 #[(.pointer p0), (.slice (some q33) 1 1)] W8 fun v W9 => v = (.tuple #[]) ∧
  ∃ s37 : Sl, W9.cell? (q3.add 1) = some s37.v ∧
  CallV Tryd.prog 26 #[(.pointer p0), s37.v] W9 fun v W10 => v = (.tuple #[]) ∧
  R (.returned (.tuple #[])) W10
theorem of_encode_Encode_1 (p0 : Option Addr) (s1_0 : Sl) (s1_1 : Sl) (W : World) (R : Ending → World → Prop) (h : V_encode_Encode_1 p0 s1_0 s1_1 W R) : Calls Tryd.prog 23 #[(.pointer p0), (.agg #[s1_0.v, s1_1.v])] W R :=
  calls_of_vcF Tryd.mix Tryd.func23 (an := (.seq .nil (.seq .nil (.seq .nil (.seq .nil (.seq .nil (.seq .nil .nil))))))) (args := [(.pointer p0), (.agg #[s1_0.v, s1_1.v])]) (Eq.mpr (by kernel_rfl : vcF Tryd.prog Tryd.f23 (.seq .nil (.seq .nil (.seq .nil (.seq .nil (.seq .nil (.seq .nil .nil)))))) [(.pointer p0), (.agg #[s1_0.v, s1_1.v])] W R = V_encode_Encode_1 p0 s1_0 s1_1 W R) h)

/-- (*plait/encode.out).bytes -/
def V_encode_out_bytes (p0 : Option Addr) (s1 : Sl) (W : World) (R : Ending → World → Prop) : Prop :=
  ∃ q6 : Addr, p0 = some q6 ∧
  ∃ s8 : Sl, W.cell? (q6.add 0) = some s8.v ∧
  RunV Tryd.prog (Builtin.append_ #[59, 59] 59 #[s8.v, s1.v]) W fun v W1 => ∃ s10 : Sl, v = s10.v ∧
  ∃ q11 : Addr, p0 = some q11 ∧
  stC W1 (q11.add 0) [s10.v] 0 fun W2 =>
  R (.returned (.tuple #[])) W2
theorem of_encode_out_bytes (p0 : Option Addr) (s1 : Sl) (W : World) (R : Ending → World → Prop) (h : V_encode_out_bytes p0 s1 W R) : Calls Tryd.prog 24 #[(.pointer p0), s1.v] W R :=
  calls_of_vcF Tryd.mix Tryd.func24 (an := .nil) (args := [(.pointer p0), s1.v]) (Eq.mpr (by kernel_rfl : vcF Tryd.prog Tryd.f24 .nil [(.pointer p0), s1.v] W R = V_encode_out_bytes p0 s1 W R) h)

/-- (*plait/encode.out).numbers -/
def V_encode_out_numbers (p0 : Option Addr) (s1 : Sl) (W : World) (R : Ending → World → Prop) : Prop :=
  ∀ L : Int → World → Prop, (∀ (x8 : Int) W1, (
    Br (decide ((x8 : Int) < (s1.len : Int)))
      (∃ q10 : Addr, (s1.a = some q10 ∧ (0 : Int) ≤ x8 ∧ x8 < (s1.len : Int)) ∧
      ∃ x11 : Int, W1.cell? (q10.add ((x8 : Int).toNat * 1)) = some (.int .i64 x11) ∧
      CallV Tryd.prog 21 #[(.pointer p0), (.bool ((decide ((x11 : Int) ≥ 0)) && (decide ((x11 : Int) < 4294967296))))] W1 fun v W2 => v = (.tuple #[]) ∧
      Dw W2 fun W3 =>
      ∃ S : World → Prop, S W3 ∧
      ∃ q22 : Addr, p0 = some q22 ∧
      ∃ s24 : Sl, (∀ w, S w → w.cell? (q22.add 0) = some s24.v) ∧
      Na W3 #[(.int .u64 (IntKind.wrap .u64 x11))] 38 fun q27 W4 =>
      S W4 ∧
      CallV Tryd.prog 58 #[(.slice (some q27) 1 1)] W4 fun v W5 => ∃ s28 : Sl, v = s28.v ∧
      S W5 ∧
      RunV Tryd.prog (Builtin.append_ #[59, 59] 59 #[s24.v, s28.v]) W5 fun v W6 => ∃ s29 : Sl, v = s29.v ∧
      ∃ q30 : Addr, p0 = some q30 ∧
      stC W6 (q30.add 0) [s29.v] 0 fun W7 =>
      L (IntKind.wrap .i64 (x8 + 1)) W7)
      (R (.returned (.tuple #[])) W1)) → L x8 W1) →
  L 0 W
theorem of_encode_out_numbers (p0 : Option Addr) (s1 : Sl) (W : World) (R : Ending → World → Prop) (h : V_encode_out_numbers p0 s1 W R) : Calls Tryd.prog 25 #[(.pointer p0), s1.v] W R :=
  calls_of_vcF Tryd.mix Tryd.func25 (an := (.seq .nil (.blk (.lp [(8, .int .i64)] [5, 9, 10, 11, 12, 13, 14, 15, 16, 17, 18, 19, 20, 21, 22, 23, 24, 25, 26, 27, 28, 29, 30, 31, 32] (.seq .nil (.seq (.cond .nil .nil) (.seq (.blk (.seq .nil (.seq .nil .nil))) .nil))))))) (args := [(.pointer p0), s1.v]) (Eq.mpr (by kernel_rfl : vcF Tryd.prog Tryd.f25 (.seq .nil (.blk (.lp [(8, .int .i64)] [5, 9, 10, 11, 12, 13, 14, 15, 16, 17, 18, 19, 20, 21, 22, 23, 24, 25, 26, 27, 28, 29, 30, 31, 32] (.seq .nil (.seq (.cond .nil .nil) (.seq (.blk (.seq .nil (.seq .nil .nil))) .nil)))))) [(.pointer p0), s1.v] W R = V_encode_out_numbers p0 s1 W R) h)

/-- (*plait/encode.out).kinds -/
def V_encode_out_kinds (p0 : Option Addr) (s1 : Sl) (W : World) (R : Ending → World → Prop) : Prop :=
  ∀ L : Int → World → Prop, (∀ (x8 : Int) W1, (
    Br (decide ((x8 : Int) < (s1.len : Int)))
      (∃ q10 : Addr, (s1.a = some q10 ∧ (0 : Int) ≤ x8 ∧ x8 < (s1.len : Int)) ∧
      ∃ x11 : Int, W1.cell? (q10.add ((x8 : Int).toNat * 1)) = some (.int .i64 x11) ∧
      CallV Tryd.prog 21 #[(.pointer p0), (.bool ((((x11 : Int) == 127) || ((x11 : Int) == 126)) || ((x11 : Int) == 123)))] W1 fun v W2 => v = (.tuple #[]) ∧
      Na W2 #[(.int .u8 (IntKind.wrap .u8 x11))] 5 fun q27 W3 =>
      CallV Tryd.prog 24 #[(.pointer p0), (.slice (some q27) 1 1)] W3 fun v W4 => v = (.tuple #[]) ∧
      L (IntKind.wrap .i64 (x8 + 1)) W4)
      (R (.returned (.tuple #[])) W1)) → L x8 W1) →
  L 0 W
theorem of_encode_out_kinds (p0 : Option Addr) (s1 : Sl) (W : World) (R : Ending → World → Prop) (h : V_encode_out_kinds p0 s1 W R) : Calls Tryd.prog 26 #[(.pointer p0), s1.v] W R :=
  calls_of_vcF Tryd.mix Tryd.func26 (an := (.seq .nil (.blk (.lp [(8, .int .i64)] [5, 9, 10, 11, 12, 13, 14, 15, 16, 17, 18, 19, 20, 21, 22, 23, 24, 25, 26, 27, 28, 29] (.seq .nil (.seq (.cond .nil .nil) (.seq (.blk (.seq .nil (.seq .nil .nil))) .nil))))))) (args := [(.pointer p0), s1.v]) (Eq.mpr (by kernel_rfl : vcF Tryd.prog Tryd.f26 (.seq .nil (.blk (.lp [(8, .int .i64)] [5, 9, 10, 11, 12, 13, 14, 15, 16, 17, 18, 19, 20, 21, 22, 23, 24, 25, 26, 27, 28, 29] (.seq .nil (.seq (.cond .nil .nil) (.seq (.blk (.seq .nil (.seq .nil .nil))) .nil)))))) [(.pointer p0), s1.v] W R = V_encode_out_kinds p0 s1 W R) h)

/-- plait/encode.section[plait/api.Import] -/
def V_encode_section_Import (p0 : Option Addr) (x1 : Int) (x2 : Int) (s3 : Sl) (g4 : Nat) (W : World) (R : Ending → World → Prop) : Prop :=
  CallV Tryd.prog 21 #[(.pointer p0), (.bool (decide (((s3.len : Int) : Int) ≤ x2)))] W fun v W1 => v = (.tuple #[]) ∧
  Br (((s3.len : Int) : Int) == 0)
    (R (.returned (.tuple #[])) W1)
    (∃ q23 : Addr, p0 = some q23 ∧
    ∃ b25 : Bool, W1.cell? (q23.add 1) = some (.bool b25) ∧
    Na W1 #[(.slice none 0 0), (.bool b25)] 74 fun q27 W2 =>
    Na W2 #[(.int .i64 (s3.len : Int))] 3 fun q31 W3 =>
    CallV Tryd.prog 25 #[(.pointer (some q27)), (.slice (some q31) 1 1)] W3 fun v W4 => v = (.tuple #[]) ∧
    ∀ L : Int → World → Prop, (∀ (x35 : Int) W5, (
      Br (decide ((x35 : Int) < (s3.len : Int)))
        (∃ q37 : Addr, (s3.a = some q37 ∧ (0 : Int) ≤ x35 ∧ x35 < (s3.len : Int)) ∧
        ∃ s38_0 : ByteArray, W5.cell? ((q37.add ((x35 : Int).toNat * 3)).add 0) = some (.string s38_0) ∧
        ∃ s38_1 : ByteArray, W5.cell? ((q37.add ((x35 : Int).toNat * 3)).add 1) = some (.string s38_1) ∧
        ∃ x38_2 : Int, W5.cell? ((q37.add ((x35 : Int).toNat * 3)).add 2) = some (.int .i64 x38_2) ∧
        Na W5 #[(.string (ByteArray.mk #[])), (.string (ByteArray.mk #[])), (.int .i64 0)] 66 fun q12 W6 =>
        stC W6 q12 [(.string s38_0), (.string s38_1), (.int .i64 x38_2)] 0 fun W7 =>
        ∃ s41_0 : ByteArray, W7.cell? (q12.add 0) = some (.string s41_0) ∧
        ∃ s41_1 : ByteArray, W7.cell? (q12.add 1) = some (.string s41_1) ∧
        ∃ x41_2 : Int, W7.cell? (q12.add 2) = some (.int .i64 x41_2) ∧
        CallV Tryd.prog g4 #[(.pointer (some q27)), (.agg #[(.string s41_0), (.string s41_1), (.int .i64 x41_2)])] W7 fun v W8 => v = (.tuple #[]) ∧
        L (IntKind.wrap .i64 (x35 + 1)) W8)
        (CallV Tryd.prog 40 #[(.pointer p0), (.int .u8 x1), (.pointer (some q27))] W5 fun v W9 => v = (.tuple #[]) ∧
        R (.returned (.tuple #[])) W9)) → L x35 W5) →
    L 0 W4)
theorem of_encode_section_Import (p0 : Option Addr) (x1 : Int) (x2 : Int) (s3 : Sl) (g4 : Nat) (W : World) (R : Ending → World → Prop) (h : V_encode_section_Import p0 x1 x2 s3 g4 W R) : Calls Tryd.prog 27 #[(.pointer p0), (.int .u8 x1), (.int .i64 x2), s3.v, (.func (.func g4) #[] #[])] W R :=
  calls_of_vcF Tryd.mix Tryd.func27 (an := (.seq .nil (.seq (.seq .nil (.cond .nil .nil)) (.seq .nil (.seq .nil (.seq (.seq .nil (.blk (.lp [(35, .int .i64)] [12, 36, 37, 38, 39, 40, 41, 42, 43] (.seq .nil (.seq (.cond .nil .nil) (.seq (.blk (.seq .nil .nil)) .nil)))))) .nil)))))) (args := [(.pointer p0), (.int .u8 x1), (.int .i64 x2), s3.v, (.func (.func g4) #[] #[])]) (Eq.mpr (by kernel_rfl : vcF Tryd.prog Tryd.f27 (.seq .nil (.seq (.seq .nil (.cond .nil .nil)) (.seq .nil (.seq .nil (.seq (.seq .nil (.blk (.lp [(35, .int .i64)] [12, 36, 37, 38, 39, 40, 41, 42, 43] (.seq .nil (.seq (.cond .nil .nil) (.seq (.blk (.seq .nil .nil)) .nil)))))) .nil))))) [(.pointer p0), (.int .u8 x1), (.int .i64 x2), s3.v, (.func (.func g4) #[] #[])] W R = V_encode_section_Import p0 x1 x2 s3 g4 W R) h)

/-- plait/encode.Encode$2 -/
def V_encode_Encode_2 (p0 : Option Addr) (s1_0 : ByteArray) (s1_1 : ByteArray) (x1_2 : Int) (W : World) (R : Ending → World → Prop) : Prop :=
  Na W #[(.string s1_0), (.string s1_1), (.int .i64 x1_2)] 66 fun q3 W1 =>
  ∃ s6 : ByteArray, W1.cell? (q3.add 0) = some (.string s6) ∧
  CallV Tryd.prog 29 #[(.pointer p0), (.string s6)] W1 fun v W2 => v = (.tuple #[]) ∧
  ∃ s10 : ByteArray, W2.cell? (q3.add 1) = some (.string s10) ∧
  CallV Tryd.prog 29 #[(.pointer p0), (.string s10)] W2 fun v W3 => v = (.tuple #[]) ∧
  Na W3 #[(.int .u8 0)] 5 fun q13 W4 =>
  CallV Tryd.prog 24 #[(.pointer p0), (.slice (some q13) 1 1)] W4 fun v W5 => v = (.tuple #[]) ∧
  ∃ x17 : Int, W5.cell? (q3.add 2) = some (.int .i64 x17) ∧
  Na W5 #[(.int .i64 x17)] 3 fun q18 W6 =>
  CallV Tryd.prog 25 #[(.pointer p0), (.slice (some q18) 1 1)] W6 fun v W7 => v = (.tuple #[]) ∧
  R (.returned (.tuple #[])) W7
theorem of_encode_Encode_2 (p0 : Option Addr) (s1_0 : ByteArray) (s1_1 : ByteArray) (x1_2 : Int) (W : World) (R : Ending → World → Prop) (h : V_encode_Encode_2 p0 s1_0 s1_1 x1_2 W R) : Calls Tryd.prog 28 #[(.pointer p0), (.agg #[(.string s1_0), (.string s1_1), (.int .i64 x1_2)])] W R :=
  calls_of_vcF Tryd.mix Tryd.func28 (an := (.seq .nil (.seq .nil (.seq .nil (.seq .nil .nil))))) (args := [(.pointer p0), (.agg #[(.string s1_0), (.string s1_1), (.int .i64 x1_2)])]) (Eq.mpr (by kernel_rfl : vcF Tryd.prog Tryd.f28 (.seq .nil (.seq .nil (.seq .nil (.seq .nil .nil)))) [(.pointer p0), (.agg #[(.string s1_0), (.string s1_1), (.int .i64 x1_2)])] W R = V_encode_Encode_2 p0 s1_0 s1_1 x1_2 W R) h)

/-- (*plait/encode.out).name -/
def V_encode_out_name (p0 : Option Addr) (s1 : ByteArray) (W : World) (R : Ending → World → Prop) : Prop :=
  CallV Tryd.prog 59 #[(.string s1)] W fun v W1 => ∃ b6 : Bool, v = (.bool b6) ∧
  CallV Tryd.prog 21 #[(.pointer p0), (.bool b6)] W1 fun v W2 => v = (.tuple #[]) ∧
  Na W2 #[(.int .i64 (s1.size : Int))] 3 fun q11 W3 =>
  CallV Tryd.prog 25 #[(.pointer p0), (.slice (some q11) 1 1)] W3 fun v W4 => v = (.tuple #[]) ∧
  ∃ q15 : Addr, p0 = some q15 ∧
  ∃ s17 : Sl, W4.cell? (q15.add 0) = some s17.v ∧
  RunV Tryd.prog (Builtin.append_ #[59, 9] 59 #[s17.v, (.string s1)]) W4 fun v W5 => ∃ s19 : Sl, v = s19.v ∧
  ∃ q20 : Addr, p0 = some q20 ∧
  stC W5 (q20.add 0) [s19.v] 0 fun W6 =>
  R (.returned (.tuple #[])) W6
theorem of_encode_out_name (p0 : Option Addr) (s1 : ByteArray) (W : World) (R : Ending → World → Prop) (h : V_encode_out_name p0 s1 W R) : Calls Tryd.prog 29 #[(.pointer p0), (.string s1)] W R :=
  calls_of_vcF Tryd.mix Tryd.func29 (an := (.seq .nil (.seq .nil .nil))) (args := [(.pointer p0), (.string s1)]) (Eq.mpr (by kernel_rfl : vcF Tryd.prog Tryd.f29 (.seq .nil (.seq .nil .nil)) [(.pointer p0), (.string s1)] W R = V_encode_out_name p0 s1 W R) h)

/-- plait/encode.section[int] -/
def V_encode_section_int (p0 : Option Addr) (x1 : Int) (x2 : Int) (s3 : Sl) (g4 : Nat) (W : World) (R : Ending → World → Prop) : Prop :=
  CallV Tryd.prog 21 #[(.pointer p0), (.bool (decide (((s3.len : Int) : Int) ≤ x2)))] W fun v W1 => v = (.tuple #[]) ∧
  Br (((s3.len : Int) : Int) == 0)
    (R (.returned (.tuple #[])) W1)
    (∃ q23 : Addr, p0 = some q23 ∧
    ∃ b25 : Bool, W1.cell? (q23.add 1) = some (.bool b25) ∧
    Na W1 #[(.slice none 0 0), (.bool b25)] 74 fun q27 W2 =>
    Na W2 #[(.int .i64 (s3.len : Int))] 3 fun q31 W3 =>
    CallV Tryd.prog 25 #[(.pointer (some q27)), (.slice (some q31) 1 1)] W3 fun v W4 => v = (.tuple #[]) ∧
    ∀ L : Int → World → Prop, (∀ (x35 : Int) W5, (
      Br (decide ((x35 : Int) < (s3.len : Int)))
        (∃ q37 : Addr, (s3.a = some q37 ∧ (0 : Int) ≤ x35 ∧ x35 < (s3.len : Int)) ∧
        ∃ x38 : Int, W5.cell? (q37.add ((x35 : Int).toNat * 1)) = some (.int .i64 x38) ∧
        CallV Tryd.prog g4 #[(.pointer (some q27)), (.int .i64 x38)] W5 fun v W6 => v = (.tuple #[]) ∧
        L (IntKind.wrap .i64 (x35 + 1)) W6)
        (CallV Tryd.prog 40 #[(.pointer p0), (.int .u8 x1), (.pointer (some q27))] W5 fun v W7 => v = (.tuple #[]) ∧
        R (.returned (.tuple #[])) W7)) → L x35 W5) →
    L 0 W4)
theorem of_encode_section_int (p0 : Option Addr) (x1 : Int) (x2 : Int) (s3 : Sl) (g4 : Nat) (W : World) (R : Ending → World → Prop) (h : V_encode_section_int p0 x1 x2 s3 g4 W R) : Calls Tryd.prog 30 #[(.pointer p0), (.int .u8 x1), (.int .i64 x2), s3.v, (.func (.func g4) #[] #[])] W R :=
  calls_of_vcF Tryd.mix Tryd.func30 (an := (.seq .nil (.seq (.seq .nil (.cond .nil .nil)) (.seq .nil (.seq .nil (.seq (.seq .nil (.blk (.lp [(35, .int .i64)] [12, 36, 37, 38, 39, 40, 41, 42, 43] (.seq .nil (.seq (.cond .nil .nil) (.seq (.blk (.seq .nil .nil)) .nil)))))) .nil)))))) (args := [(.pointer p0), (.int .u8 x1), (.int .i64 x2), s3.v, (.func (.func g4) #[] #[])]) (Eq.mpr (by kernel_rfl : vcF Tryd.prog Tryd.f30 (.seq .nil (.seq (.seq .nil (.cond .nil .nil)) (.seq .nil (.seq .nil (.seq (.seq .nil (.blk (.lp [(35, .int .i64)] [12, 36, 37, 38, 39, 40, 41, 42, 43] (.seq .nil (.seq (.cond .nil .nil) (.seq (.blk (.seq .nil .nil)) .nil)))))) .nil))))) [(.pointer p0), (.int .u8 x1), (.int .i64 x2), s3.v, (.func (.func g4) #[] #[])] W R = V_encode_section_int p0 x1 x2 s3 g4 W R) h)

/-- plait/encode.Encode$3 -/
def V_encode_Encode_3 (p0 : Option Addr) (x1 : Int) (W : World) (R : Ending → World → Prop) : Prop :=
  Na W #[(.int .i64 x1)] 3 fun q6 W1 =>
  CallV Tryd.prog 25 #[(.pointer p0), (.slice (some q6) 1 1)] W1 fun v W2 => v = (.tuple #[]) ∧
  R (.returned (.tuple #[])) W2
theorem of_encode_Encode_3 (p0 : Option Addr) (x1 : Int) (W : World) (R : Ending → World → Prop) (h : V_encode_Encode_3 p0 x1 W R) : Calls Tryd.prog 31 #[(.pointer p0), (.int .i64 x1)] W R :=
  calls_of_vcF Tryd.mix Tryd.func31 (an := .nil) (args := [(.pointer p0), (.int .i64 x1)]) (Eq.mpr (by kernel_rfl : vcF Tryd.prog Tryd.f31 .nil [(.pointer p0), (.int .i64 x1)] W R = V_encode_Encode_3 p0 x1 W R) h)

/-- plait/encode.section[plait/api.Limits] -/
def V_encode_section_Limits (p0 : Option Addr) (x1 : Int) (x2 : Int) (s3 : Sl) (g4 : Nat) (W : World) (R : Ending → World → Prop) : Prop :=
  CallV Tryd.prog 21 #[(.pointer p0), (.bool (decide (((s3.len : Int) : Int) ≤ x2)))] W fun v W1 => v = (.tuple #[]) ∧
  Br (((s3.len : Int) : Int) == 0)
    (R (.returned (.tuple #[])) W1)
    (∃ q23 : Addr, p0 = some q23 ∧
    ∃ b25 : Bool, W1.cell? (q23.add 1) = some (.bool b25) ∧
    Na W1 #[(.slice none 0 0), (.bool b25)] 74 fun q27 W2 =>
    Na W2 #[(.int .i64 (s3.len : Int))] 3 fun q31 W3 =>
    CallV Tryd.prog 25 #[(.pointer (some q27)), (.slice (some q31) 1 1)] W3 fun v W4 => v = (.tuple #[]) ∧
    ∀ L : Int → World → Prop, (∀ (x35 : Int) W5, (
      Br (decide ((x35 : Int) < (s3.len : Int)))
        (∃ q37 : Addr, (s3.a = some q37 ∧ (0 : Int) ≤ x35 ∧ x35 < (s3.len : Int)) ∧
        ∃ x38_0 : Int, W5.cell? ((q37.add ((x35 : Int).toNat * 2)).add 0) = some (.int .i64 x38_0) ∧
        ∃ x38_1 : Int, W5.cell? ((q37.add ((x35 : Int).toNat * 2)).add 1) = some (.int .i64 x38_1) ∧
        Na W5 #[(.int .i64 0), (.int .i64 0)] 87 fun q12 W6 =>
        stC W6 q12 [(.int .i64 x38_0), (.int .i64 x38_1)] 0 fun W7 =>
        ∃ x41_0 : Int, W7.cell? (q12.add 0) = some (.int .i64 x41_0) ∧
        ∃ x41_1 : Int, W7.cell? (q12.add 1) = some (.int .i64 x41_1) ∧
        CallV Tryd.prog g4 #[(.pointer (some q27)), (.agg #[(.int .i64 x41_0), (.int .i64 x41_1)])] W7 fun v W8 => v = (.tuple #[]) ∧
        L (IntKind.wrap .i64 (x35 + 1)) W8)
        (CallV Tryd.prog 40 #[(.pointer p0), (.int .u8 x1), (.pointer (some q27))] W5 fun v W9 => v = (.tuple #[]) ∧
        R (.returned (.tuple #[])) W9)) → L x35 W5) →
    L 0 W4)
theorem of_encode_section_Limits (p0 : Option Addr) (x1 : Int) (x2 : Int) (s3 : Sl) (g4 : Nat) (W : World) (R : Ending → World → Prop) (h : V_encode_section_Limits p0 x1 x2 s3 g4 W R) : Calls Tryd.prog 32 #[(.pointer p0), (.int .u8 x1), (.int .i64 x2), s3.v, (.func (.func g4) #[] #[])] W R :=
  calls_of_vcF Tryd.mix Tryd.func32 (an := (.seq .nil (.seq (.seq .nil (.cond .nil .nil)) (.seq .nil (.seq .nil (.seq (.seq .nil (.blk (.lp [(35, .int .i64)] [12, 36, 37, 38, 39, 40, 41, 42, 43] (.seq .nil (.seq (.cond .nil .nil) (.seq (.blk (.seq .nil .nil)) .nil)))))) .nil)))))) (args := [(.pointer p0), (.int .u8 x1), (.int .i64 x2), s3.v, (.func (.func g4) #[] #[])]) (Eq.mpr (by kernel_rfl : vcF Tryd.prog Tryd.f32 (.seq .nil (.seq (.seq .nil (.cond .nil .nil)) (.seq .nil (.seq .nil (.seq (.seq .nil (.blk (.lp [(35, .int .i64)] [12, 36, 37, 38, 39, 40, 41, 42, 43] (.seq .nil (.seq (.cond .nil .nil) (.seq (.blk (.seq .nil .nil)) .nil)))))) .nil))))) [(.pointer p0), (.int .u8 x1), (.int .i64 x2), s3.v, (.func (.func g4) #[] #[])] W R = V_encode_section_Limits p0 x1 x2 s3 g4 W R) h)

/-- plait/encode.Encode$4 -/
def V_encode_Encode_4 (p0 : Option Addr) (x1_0 : Int) (x1_1 : Int) (W : World) (R : Ending → World → Prop) : Prop :=
  Na W #[(.int .i64 x1_0), (.int .i64 x1_1)] 87 fun q3 W1 =>
  Na W1 #[(.int .u8 112)] 5 fun q5 W2 =>
  CallV Tryd.prog 24 #[(.pointer p0), (.slice (some q5) 1 1)] W2 fun v W3 => v = (.tuple #[]) ∧
  ∃ x8_0 : Int, W3.cell? (q3.add 0) = some (.int .i64 x8_0) ∧
  ∃ x8_1 : Int, W3.cell? (q3.add 1) = some (.int .i64 x8_1) ∧
  CallV Tryd.prog 34 #[(.pointer p0), (.agg #[(.int .i64 x8_0), (.int .i64 x8_1)]), (.int .i64 1024)] W3 fun v W4 => v = (.tuple #[]) ∧
  R (.returned (.tuple #[])) W4
theorem of_encode_Encode_4 (p0 : Option Addr) (x1_0 : Int) (x1_1 : Int) (W : World) (R : Ending → World → Prop) (h : V_encode_Encode_4 p0 x1_0 x1_1 W R) : Calls Tryd.prog 33 #[(.pointer p0), (.agg #[(.int .i64 x1_0), (.int .i64 x1_1)])] W R :=
  calls_of_vcF Tryd.mix Tryd.func33 (an := (.seq .nil (.seq .nil .nil))) (args := [(.pointer p0), (.agg #[(.int .i64 x1_0), (.int .i64 x1_1)])]) (Eq.mpr (by kernel_rfl : vcF Tryd.prog Tryd.f33 (.seq .nil (.seq .nil .nil)) [(.pointer p0), (.agg #[(.int .i64 x1_0), (.int .i64 x1_1)])] W R = V_encode_Encode_4 p0 x1_0 x1_1 W R) h)

/-- (*plait/encode.out).limits -/
def V_encode_out_limits (p0 : Option Addr) (x1_0 : Int) (x1_1 : Int) (x2 : Int) (W : World) (R : Ending → World → Prop) : Prop :=
  Na W #[(.int .i64 x1_0), (.int .i64 x1_1)] 87 fun q4 W1 =>
  ∃ x8 : Int, W1.cell? (q4.add 0) = some (.int .i64 x8) ∧
  CallV Tryd.prog 21 #[(.pointer p0), (.bool (decide ((x8 : Int) ≤ x2)))] W1 fun v W2 => v = (.tuple #[]) ∧
  ∃ x13 : Int, W2.cell? (q4.add 1) = some (.int .i64 x13) ∧
  Br ((x13 : Int) == (-1))
    (Na W2 #[(.int .u8 0)] 5 fun q16 W3 =>
    CallV Tryd.prog 24 #[(.pointer p0), (.slice (some q16) 1 1)] W3 fun v W4 => v = (.tuple #[]) ∧
    ∃ x20 : Int, W4.cell? (q4.add 0) = some (.int .i64 x20) ∧
    Na W4 #[(.int .i64 x20)] 3 fun q21 W5 =>
    CallV Tryd.prog 25 #[(.pointer p0), (.slice (some q21) 1 1)] W5 fun v W6 => v = (.tuple #[]) ∧
    R (.returned (.tuple #[])) W6)
    (Na W2 #[(.int .u8 1)] 5 fun q24 W7 =>
    CallV Tryd.prog 24 #[(.pointer p0), (.slice (some q24) 1 1)] W7 fun v W8 => v = (.tuple #[]) ∧
    ∃ x28 : Int, W8.cell? (q4.add 0) = some (.int .i64 x28) ∧
    ∃ x30 : Int, W8.cell? (q4.add 1) = some (.int .i64 x30) ∧
    Na W8 #[(.int .i64 x28), (.int .i64 x30)] 3 fun q31 W9 =>
    CallV Tryd.prog 25 #[(.pointer p0), (.slice (some q31) 2 2)] W9 fun v W10 => v = (.tuple #[]) ∧
    R (.returned (.tuple #[])) W10)
theorem of_encode_out_limits (p0 : Option Addr) (x1_0 : Int) (x1_1 : Int) (x2 : Int) (W : World) (R : Ending → World → Prop) (h : V_encode_out_limits p0 x1_0 x1_1 x2 W R) : Calls Tryd.prog 34 #[(.pointer p0), (.agg #[(.int .i64 x1_0), (.int .i64 x1_1)]), (.int .i64 x2)] W R :=
  calls_of_vcF Tryd.mix Tryd.func34 (an := (.seq .nil (.seq .nil (.seq (.seq .nil (.cond (.seq .nil (.seq .nil .nil)) .nil)) (.seq .nil .nil))))) (args := [(.pointer p0), (.agg #[(.int .i64 x1_0), (.int .i64 x1_1)]), (.int .i64 x2)]) (Eq.mpr (by kernel_rfl : vcF Tryd.prog Tryd.f34 (.seq .nil (.seq .nil (.seq (.seq .nil (.cond (.seq .nil (.seq .nil .nil)) .nil)) (.seq .nil .nil)))) [(.pointer p0), (.agg #[(.int .i64 x1_0), (.int .i64 x1_1)]), (.int .i64 x2)] W R = V_encode_out_limits p0 x1_0 x1_1 x2 W R) h)

/-- plait/encode.Encode$5 -/
def V_encode_Encode_5 (p0 : Option Addr) (x1_0 : Int) (x1_1 : Int) (W : World) (R : Ending → World → Prop) : Prop :=
  Na W #[(.int .i64 x1_0), (.int .i64 x1_1)] 87 fun q3 W1 =>
  ∃ x5_0 : Int, W1.cell? (q3.add 0) = some (.int .i64 x5_0) ∧
  ∃ x5_1 : Int, W1.cell? (q3.add 1) = some (.int .i64 x5_1) ∧
  CallV Tryd.prog 34 #[(.pointer p0), (.agg #[(.int .i64 x5_0), (.int .i64 x5_1)]), (.int .i64 16)] W1 fun v W2 => v = (.tuple #[]) ∧
  R (.returned (.tuple #[])) W2
theorem of_encode_Encode_5 (p0 : Option Addr) (x1_0 : Int) (x1_1 : Int) (W : World) (R : Ending → World → Prop) (h : V_encode_Encode_5 p0 x1_0 x1_1 W R) : Calls Tryd.prog 35 #[(.pointer p0), (.agg #[(.int .i64 x1_0), (.int .i64 x1_1)])] W R :=
  calls_of_vcF Tryd.mix Tryd.func35 (an := (.seq .nil .nil)) (args := [(.pointer p0), (.agg #[(.int .i64 x1_0), (.int .i64 x1_1)])]) (Eq.mpr (by kernel_rfl : vcF Tryd.prog Tryd.f35 (.seq .nil .nil) [(.pointer p0), (.agg #[(.int .i64 x1_0), (.int .i64 x1_1)])] W R = V_encode_Encode_5 p0 x1_0 x1_1 W R) h)

/-- plait/encode.section[plait/api.Global] -/
def V_encode_section_Global (p0 : Option Addr) (x1 : Int) (x2 : Int) (s3 : Sl) (g4 : Nat) (W : World) (R : Ending → World → Prop) : Prop :=
  CallV Tryd.prog 21 #[(.pointer p0), (.bool (decide (((s3.len : Int) : Int) ≤ x2)))] W fun v W1 => v = (.tuple #[]) ∧
  Br (((s3.len : Int) : Int) == 0)
    (R (.returned (.tuple #[])) W1)
    (∃ q23 : Addr, p0 = some q23 ∧
    ∃ b25 : Bool, W1.cell? (q23.add 1) = some (.bool b25) ∧
    Na W1 #[(.slice none 0 0), (.bool b25)] 74 fun q27 W2 =>
    Na W2 #[(.int .i64 (s3.len : Int))] 3 fun q31 W3 =>
    CallV Tryd.prog 25 #[(.pointer (some q27)), (.slice (some q31) 1 1)] W3 fun v W4 => v = (.tuple #[]) ∧
    ∀ L : Int → World → Prop, (∀ (x35 : Int) W5, (
      Br (decide ((x35 : Int) < (s3.len : Int)))
        (∃ q37 : Addr, (s3.a = some q37 ∧ (0 : Int) ≤ x35 ∧ x35 < (s3.len : Int)) ∧
        ∃ x38_0 : Int, W5.cell? ((q37.add ((x35 : Int).toNat * 3)).add 0) = some (.int .i64 x38_0) ∧
        ∃ b38_1 : Bool, W5.cell? ((q37.add ((x35 : Int).toNat * 3)).add 1) = some (.bool b38_1) ∧
        ∃ s38_2 : Sl, W5.cell? ((q37.add ((x35 : Int).toNat * 3)).add 2) = some s38_2.v ∧
        Na W5 #[(.int .i64 0), (.bool false), (.slice none 0 0)] 43 fun q12 W6 =>
        stC W6 q12 [(.int .i64 x38_0), (.bool b38_1), s38_2.v] 0 fun W7 =>
        ∃ x41_0 : Int, W7.cell? (q12.add 0) = some (.int .i64 x41_0) ∧
        ∃ b41_1 : Bool, W7.cell? (q12.add 1) = some (.bool b41_1) ∧
        ∃ s41_2 : Sl, W7.cell? (q12.add 2) = some s41_2.v ∧
        CallV Tryd.prog g4 #[(.pointer (some q27)), (.agg #[(.int .i64 x41_0), (.bool b41_1), s41_2.v])] W7 fun v W8 => v = (.tuple #[]) ∧
        L (IntKind.wrap .i64 (x35 + 1)) W8)
        (CallV Tryd.prog 40 #[(.pointer p0), (.int .u8 x1), (.pointer (some q27))] W5 fun v W9 => v = (.tuple #[]) ∧
        R (.returned (.tuple #[])) W9)) → L x35 W5) →
    L 0 W4)
theorem of_encode_section_Global (p0 : Option Addr) (x1 : Int) (x2 : Int) (s3 : Sl) (g4 : Nat) (W : World) (R : Ending → World → Prop) (h : V_encode_section_Global p0 x1 x2 s3 g4 W R) : Calls Tryd.prog 36 #[(.pointer p0), (.int .u8 x1), (.int .i64 x2), s3.v, (.func (.func g4) #[] #[])] W R :=
  calls_of_vcF Tryd.mix Tryd.func36 (an := (.seq .nil (.seq (.seq .nil (.cond .nil .nil)) (.seq .nil (.seq .nil (.seq (.seq .nil (.blk (.lp [(35, .int .i64)] [12, 36, 37, 38, 39, 40, 41, 42, 43] (.seq .nil (.seq (.cond .nil .nil) (.seq (.blk (.seq .nil .nil)) .nil)))))) .nil)))))) (args := [(.pointer p0), (.int .u8 x1), (.int .i64 x2), s3.v, (.func (.func g4) #[] #[])]) (Eq.mpr (by kernel_rfl : vcF Tryd.prog Tryd.f36 (.seq .nil (.seq (.seq .nil (.cond .nil .nil)) (.seq .nil (.seq .nil (.seq (.seq .nil (.blk (.lp [(35, .int .i64)] [12, 36, 37, 38, 39, 40, 41, 42, 43] (.seq .nil (.seq (.cond .nil .nil) (.seq (.blk (.seq .nil .nil)) .nil)))))) .nil))))) [(.pointer p0), (.int .u8 x1), (.int .i64 x2), s3.v, (.func (.func g4) #[] #[])] W R = V_encode_section_Global p0 x1 x2 s3 g4 W R) h)

/-- plait/encode.global -/
def V_encode_global (p0 : Option Addr) (x1_0 : Int) (b1_1 : Bool) (s1_2 : Sl) (W : World) (R : Ending → World → Prop) : Prop :=
  Na W #[(.int .i64 x1_0), (.bool b1_1), s1_2.v] 43 fun q3 W1 =>
  ∃ x6 : Int, W1.cell? (q3.add 0) = some (.int .i64 x6) ∧
  Na W1 #[(.int .i64 x6)] 3 fun q7 W2 =>
  CallV Tryd.prog 26 #[(.pointer p0), (.slice (some q7) 1 1)] W2 fun v W3 => v = (.tuple #[]) ∧
  ∃ b10 : Bool, W3.cell? (q3.add 1) = some (.bool b10) ∧
  Br b10
    (Na W3 #[(.int .u8 1)] 5 fun q12 W4 =>
    CallV Tryd.prog 24 #[(.pointer p0), (.slice (some q12) 1 1)] W4 fun v W5 => v = (.tuple #[]) ∧
    ∃ s19 : Sl, W5.cell? (q3.add 2) = some s19.v ∧
    CallV Tryd.prog 43 #[(.pointer p0), s19.v] W5 fun v W6 => v = (.tuple #[]) ∧
    R (.returned (.tuple #[])) W6)
    (Na W3 #[(.int .u8 0)] 5 fun q15 W7 =>
    CallV Tryd.prog 24 #[(.pointer p0), (.slice (some q15) 1 1)] W7 fun v W8 => v = (.tuple #[]) ∧
    ∃ s19_1 : Sl, W8.cell? (q3.add 2) = some s19_1.v ∧
    CallV Tryd.prog 43 #[(.pointer p0), s19_1.v] W8 fun v W9 => v = (.tuple #[]) ∧
    R (.returned (.tuple #[])) W9)
theorem of_encode_global (p0 : Option Addr) (x1_0 : Int) (b1_1 : Bool) (s1_2 : Sl) (W : World) (R : Ending → World → Prop) (h : V_encode_global p0 x1_0 b1_1 s1_2 W R) : Calls Tryd.prog 37 #[(.pointer p0), (.agg #[(.int .i64 x1_0), (.bool b1_1), s1_2.v])] W R :=
  calls_of_vcF Tryd.mix Tryd.func37 (an := (.seq .nil (.seq .nil (.seq (.seq .nil (.cond .nil .nil)) .nil)))) (args := [(.pointer p0), (.agg #[(.int .i64 x1_0), (.bool b1_1), s1_2.v])]) (Eq.mpr (by kernel_rfl : vcF Tryd.prog Tryd.f37 (.seq .nil (.seq .nil (.seq (.seq .nil (.cond .nil .nil)) .nil))) [(.pointer p0), (.agg #[(.int .i64 x1_0), (.bool b1_1), s1_2.v])] W R = V_encode_global p0 x1_0 b1_1 s1_2 W R) h)

end Go.Proofs.YtacjnpahlbibhaaDoor

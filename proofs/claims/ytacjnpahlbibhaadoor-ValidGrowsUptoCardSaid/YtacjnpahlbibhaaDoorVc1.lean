/- Verification conditions of the functions, printed by wip/tools/gen.py out of the loaded functions; each is checked by the kernel. -/
import Derived.Test.YtacjnpahlbibhaaDoorTab
set_option linter.unusedVariables false
set_option maxRecDepth 100000
namespace Go.Proofs.YtacjnpahlbibhaaDoor
open Go

/-- plait/encode.section[plait/api.Export] -/
def V_encode_section_Export (p0 : Option Addr) (x1 : Int) (x2 : Int) (s3 : Sl) (g4 : Nat) (W : World) (R : Ending → World → Prop) : Prop :=
  CallV Tryd.prog 21 #[(.pointer p0), (.bool (decide (((s3.len : Int) : Int) ≤ x2)))] W fun v W1 => v = (.tuple #[]) ∧
  Br (((s3.len : Int) : Int) == 0)
    (R (.returned (.tuple #[])) W1)
    (∃ q23 : Addr, p0 = some q23 ∧
    ∃ b25 : Bool, W1.cell? (q23.add 1) = some (.bool b25) ∧
    Na W1 #[(.slice none 0 0), (.bool b25)] 74 fun q27 W2 =>
    Na W2 #[(.int .i64 (s3.len : Int))] 3 fun q31 W3 =>
    CallV Tryd.prog 25 #[(.pointer (some q27)), (.slice (some q31) 1 1)] W3 fun v W4 => v = (.tuple #[]) ∧
    ∀ L : Int → World → Prop, (∀ (x35 : Int) W5, (
      Br (decide ((x35 : Int) < (s3.len : Int)))
        (∃ q37 : Addr, (s3.a = some q37 ∧ (0 : Int) ≤ x35 ∧ x35 < (s3.len : Int)) ∧
        ∃ s38_0 : ByteArray, W5.cell? ((q37.add ((x35 : Int).toNat * 3)).add 0) = some (.string s38_0) ∧
        ∃ x38_1 : Int, W5.cell? ((q37.add ((x35 : Int).toNat * 3)).add 1) = some (.int .i64 x38_1) ∧
        ∃ x38_2 : Int, W5.cell? ((q37.add ((x35 : Int).toNat * 3)).add 2) = some (.int .i64 x38_2) ∧
        Na W5 #[(.string (ByteArray.mk #[])), (.int .i64 0), (.int .i64 0)] 71 fun q12 W6 =>
        stC W6 q12 [(.string s38_0), (.int .i64 x38_1), (.int .i64 x38_2)] 0 fun W7 =>
        ∃ s41_0 : ByteArray, W7.cell? (q12.add 0) = some (.string s41_0) ∧
        ∃ x41_1 : Int, W7.cell? (q12.add 1) = some (.int .i64 x41_1) ∧
        ∃ x41_2 : Int, W7.cell? (q12.add 2) = some (.int .i64 x41_2) ∧
        CallV Tryd.prog g4 #[(.pointer (some q27)), (.agg #[(.string s41_0), (.int .i64 x41_1), (.int .i64 x41_2)])] W7 fun v W8 => v = (.tuple #[]) ∧
        L (IntKind.wrap .i64 (x35 + 1)) W8)
        (CallV Tryd.prog 40 #[(.pointer p0), (.int .u8 x1), (.pointer (some q27))] W5 fun v W9 => v = (.tuple #[]) ∧
        R (.returned (.tuple #[])) W9)) → L x35 W5) →
    L 0 W4)
theorem of_encode_section_Export (p0 : Option Addr) (x1 : Int) (x2 : Int) (s3 : Sl) (g4 : Nat) (W : World) (R : Ending → World → Prop) (h : V_encode_section_Export p0 x1 x2 s3 g4 W R) : Calls Tryd.prog 38 #[(.pointer p0), (.int .u8 x1), (.int .i64 x2), s3.v, (.func (.func g4) #[] #[])] W R :=
  calls_of_vcF Tryd.mix Tryd.func38 (an := (.seq .nil (.seq (.seq .nil (.cond .nil .nil)) (.seq .nil (.seq .nil (.seq (.seq .nil (.blk (.lp [(35, .int .i64)] [12, 36, 37, 38, 39, 40, 41, 42, 43] (.seq .nil (.seq (.cond .nil .nil) (.seq (.blk (.seq .nil .nil)) .nil)))))) .nil)))))) (args := [(.pointer p0), (.int .u8 x1), (.int .i64 x2), s3.v, (.func (.func g4) #[] #[])]) (Eq.mpr (by kernel_rfl : vcF Tryd.prog Tryd.f38 (.seq .nil (.seq (.seq .nil (.cond .nil .nil)) (.seq .nil (.seq .nil (.seq (.seq .nil (.blk (.lp [(35, .int .i64)] [12, 36, 37, 38, 39, 40, 41, 42, 43] (.seq .nil (.seq (.cond .nil .nil) (.seq (.blk (.seq .nil .nil)) .nil)))))) .nil))))) [(.pointer p0), (.int .u8 x1), (.int .i64 x2), s3.v, (.func (.func g4) #[] #[])] W R = V_encode_section_Export p0 x1 x2 s3 g4 W R) h)

/-- plait/encode.Encode$6 -/
def V_encode_Encode_6 (p0 : Option Addr) (s1_0 : ByteArray) (x1_1 : Int) (x1_2 : Int) (W : World) (R : Ending → World → Prop) : Prop :=
  Na W #[(.string s1_0), (.int .i64 x1_1), (.int .i64 x1_2)] 71 fun q3 W1 =>
  ∃ x6 : Int, W1.cell? (q3.add 1) = some (.int .i64 x6) ∧
  ∃ x10 : Int, ((decide ((x6 : Int) ≥ 0)) = true → W1.cell? (q3.add 1) = some (.int .i64 x10)) ∧
  CallV Tryd.prog 21 #[(.pointer p0), (.bool ((decide ((x6 : Int) ≥ 0)) && (decide ((x10 : Int) ≤ 3))))] W1 fun v W2 => v = (.tuple #[]) ∧
  ∃ s16 : ByteArray, W2.cell? (q3.add 0) = some (.string s16) ∧
  CallV Tryd.prog 29 #[(.pointer p0), (.string s16)] W2 fun v W3 => v = (.tuple #[]) ∧
  ∃ x20 : Int, W3.cell? (q3.add 1) = some (.int .i64 x20) ∧
  Na W3 #[(.int .u8 (IntKind.wrap .u8 x20))] 5 fun q22 W4 =>
  CallV Tryd.prog 24 #[(.pointer p0), (.slice (some q22) 1 1)] W4 fun v W5 => v = (.tuple #[]) ∧
  ∃ x26 : Int, W5.cell? (q3.add 2) = some (.int .i64 x26) ∧
  Na W5 #[(.int .i64 x26)] 3 fun q27 W6 =>
  CallV Tryd.prog 25 #[(.pointer p0), (.slice (some q27) 1 1)] W6 fun v W7 => v = (.tuple #[]) ∧
  R (.returned (.tuple #[])) W7
theorem of_encode_Encode_6 (p0 : Option Addr) (s1_0 : ByteArray) (x1_1 : Int) (x1_2 : Int) (W : World) (R : Ending → World → Prop) (h : V_encode_Encode_6 p0 s1_0 x1_1 x1_2 W R) : Calls Tryd.prog 39 #[(.pointer p0), (.agg #[(.string s1_0), (.int .i64 x1_1), (.int .i64 x1_2)])] W R :=
  calls_of_vcF Tryd.mix Tryd.func39 (an := (.seq .nil (.seq .nil (.seq .nil (.seq .nil .nil))))) (args := [(.pointer p0), (.agg #[(.string s1_0), (.int .i64 x1_1), (.int .i64 x1_2)])]) (Eq.mpr (by kernel_rfl : vcF Tryd.prog Tryd.f39 (.seq .nil (.seq .nil (.seq .nil (.seq .nil .nil)))) [(.pointer p0), (.agg #[(.string s1_0), (.int .i64 x1_1), (.int .i64 x1_2)])] W R = V_encode_Encode_6 p0 s1_0 x1_1 x1_2 W R) h)

/-- (*plait/encode.out).put -/
def V_encode_out_put (p0 : Option Addr) (x1 : Int) (p2 : Option Addr) (W : World) (R : Ending → World → Prop) : Prop :=
  ∃ q8 : Addr, p2 = some q8 ∧
  ∃ b10 : Bool, W.cell? (q8.add 1) = some (.bool b10) ∧
  CallV Tryd.prog 21 #[(.pointer p0), (.bool (!b10))] W fun v W1 => v = (.tuple #[]) ∧
  Na W1 #[(.int .u8 x1)] 5 fun q15 W2 =>
  CallV Tryd.prog 24 #[(.pointer p0), (.slice (some q15) 1 1)] W2 fun v W3 => v = (.tuple #[]) ∧
  ∃ q19 : Addr, p2 = some q19 ∧
  ∃ s21 : Sl, W3.cell? (q19.add 0) = some s21.v ∧
  Na W3 #[(.int .i64 (s21.len : Int))] 3 fun q23 W4 =>
  CallV Tryd.prog 25 #[(.pointer p0), (.slice (some q23) 1 1)] W4 fun v W5 => v = (.tuple #[]) ∧
  Dw W5 fun W6 =>
  ∃ q27 : Addr, p0 = some q27 ∧
  ∃ s29 : Sl, W6.cell? (q27.add 0) = some s29.v ∧
  ∃ q31 : Addr, p2 = some q31 ∧
  ∃ s33 : Sl, W6.cell? (q31.add 0) = some s33.v ∧
  RunV Tryd.prog (Builtin.append_ #[59, 59] 59 #[s29.v, s33.v]) W6 fun v W7 => ∃ s34 : Sl, v = s34.v ∧
  ∃ q35 : Addr, p0 = some q35 ∧
  stC W7 (q35.add 0) [s34.v] 0 fun W8 =>
  R (.returned (.tuple #[])) W8
theorem of_encode_out_put (p0 : Option Addr) (x1 : Int) (p2 : Option Addr) (W : World) (R : Ending → World → Prop) (h : V_encode_out_put p0 x1 p2 W R) : Calls Tryd.prog 40 #[(.pointer p0), (.int .u8 x1), (.pointer p2)] W R :=
  calls_of_vcF Tryd.mix Tryd.func40 (an := (.seq .nil (.seq .nil (.seq .nil .nil)))) (args := [(.pointer p0), (.int .u8 x1), (.pointer p2)]) (Eq.mpr (by kernel_rfl : vcF Tryd.prog Tryd.f40 (.seq .nil (.seq .nil (.seq .nil .nil))) [(.pointer p0), (.int .u8 x1), (.pointer p2)] W R = V_encode_out_put p0 x1 p2 W R) h)

/-- plait/encode.section[plait/api.Elem] -/
def V_encode_section_Elem (p0 : Option Addr) (x1 : Int) (x2 : Int) (s3 : Sl) (g4 : Nat) (W : World) (R : Ending → World → Prop) : Prop :=
  CallV Tryd.prog 21 #[(.pointer p0), (.bool (decide (((s3.len : Int) : Int) ≤ x2)))] W fun v W1 => v = (.tuple #[]) ∧
  Br (((s3.len : Int) : Int) == 0)
    (R (.returned (.tuple #[])) W1)
    (∃ q23 : Addr, p0 = some q23 ∧
    ∃ b25 : Bool, W1.cell? (q23.add 1) = some (.bool b25) ∧
    Na W1 #[(.slice none 0 0), (.bool b25)] 74 fun q27 W2 =>
    Na W2 #[(.int .i64 (s3.len : Int))] 3 fun q31 W3 =>
    CallV Tryd.prog 25 #[(.pointer (some q27)), (.slice (some q31) 1 1)] W3 fun v W4 => v = (.tuple #[]) ∧
    ∀ L : Int → World → Prop, (∀ (x35 : Int) W5, (
      Br (decide ((x35 : Int) < (s3.len : Int)))
        (∃ q37 : Addr, (s3.a = some q37 ∧ (0 : Int) ≤ x35 ∧ x35 < (s3.len : Int)) ∧
        ∃ s38_0 : Sl, W5.cell? ((q37.add ((x35 : Int).toNat * 2)).add 0) = some s38_0.v ∧
        ∃ s38_1 : Sl, W5.cell? ((q37.add ((x35 : Int).toNat * 2)).add 1) = some s38_1.v ∧
        Na W5 #[(.slice none 0 0), (.slice none 0 0)] 97 fun q12 W6 =>
        stC W6 q12 [s38_0.v, s38_1.v] 0 fun W7 =>
        ∃ s41_0 : Sl, W7.cell? (q12.add 0) = some s41_0.v ∧
        ∃ s41_1 : Sl, W7.cell? (q12.add 1) = some s41_1.v ∧
        CallV Tryd.prog g4 #[(.pointer (some q27)), (.agg #[s41_0.v, s41_1.v])] W7 fun v W8 => v = (.tuple #[]) ∧
        L (IntKind.wrap .i64 (x35 + 1)) W8)
        (CallV Tryd.prog 40 #[(.pointer p0), (.int .u8 x1), (.pointer (some q27))] W5 fun v W9 => v = (.tuple #[]) ∧
        R (.returned (.tuple #[])) W9)) → L x35 W5) →
    L 0 W4)
theorem of_encode_section_Elem (p0 : Option Addr) (x1 : Int) (x2 : Int) (s3 : Sl) (g4 : Nat) (W : World) (R : Ending → World → Prop) (h : V_encode_section_Elem p0 x1 x2 s3 g4 W R) : Calls Tryd.prog 41 #[(.pointer p0), (.int .u8 x1), (.int .i64 x2), s3.v, (.func (.func g4) #[] #[])] W R :=
  calls_of_vcF Tryd.mix Tryd.func41 (an := (.seq .nil (.seq (.seq .nil (.cond .nil .nil)) (.seq .nil (.seq .nil (.seq (.seq .nil (.blk (.lp [(35, .int .i64)] [12, 36, 37, 38, 39, 40, 41, 42, 43] (.seq .nil (.seq (.cond .nil .nil) (.seq (.blk (.seq .nil .nil)) .nil)))))) .nil)))))) (args := [(.pointer p0), (.int .u8 x1), (.int .i64 x2), s3.v, (.func (.func g4) #[] #[])]) (Eq.mpr (by kernel_rfl : vcF Tryd.prog Tryd.f41 (.seq .nil (.seq (.seq .nil (.cond .nil .nil)) (.seq .nil (.seq .nil (.seq (.seq .nil (.blk (.lp [(35, .int .i64)] [12, 36, 37, 38, 39, 40, 41, 42, 43] (.seq .nil (.seq (.cond .nil .nil) (.seq (.blk (.seq .nil .nil)) .nil)))))) .nil))))) [(.pointer p0), (.int .u8 x1), (.int .i64 x2), s3.v, (.func (.func g4) #[] #[])] W R = V_encode_section_Elem p0 x1 x2 s3 g4 W R) h)

/-- plait/encode.Encode$7 -/
def V_encode_Encode_7 (p0 : Option Addr) (s1_0 : Sl) (s1_1 : Sl) (W : World) (R : Ending → World → Prop) : Prop :=
  Na W #[s1_0.v, s1_1.v] 97 fun q3 W1 =>
  ∃ s6 : Sl, W1.cell? (q3.add 1) = some s6.v ∧
  CallV Tryd.prog 21 #[(.pointer p0), (.bool (decide (((s6.len : Int) : Int) ≤ 1024)))] W1 fun v W2 => v = (.tuple #[]) ∧
  Na W2 #[(.int .u8 0)] 5 fun q11 W3 =>
  CallV Tryd.prog 24 #[(.pointer p0), (.slice (some q11) 1 1)] W3 fun v W4 => v = (.tuple #[]) ∧
  ∃ s15 : Sl, W4.cell? (q3.add 0) = some s15.v ∧
  CallV Tryd.prog 43 #[(.pointer p0), s15.v] W4 fun v W5 => v = (.tuple #[]) ∧
  ∃ s19 : Sl, W5.cell? (q3.add 1) = some s19.v ∧
  Na W5 #[(.int .i64 (s19.len : Int))] 3 fun q21 W6 =>
  CallV Tryd.prog 25 #[(.pointer p0), (.slice (some q21) 1 1)] W6 fun v W7 => v = (.tuple #[]) ∧
  ∃ s25 : Sl, W7.cell? (q3.add 1) = some s25.v ∧
  CallV Tryd.prog 25 #[(.pointer p0), s25.v] W7 fun v W8 => v = (.tuple #[]) ∧
  R (.returned (.tuple #[])) W8
theorem of_encode_Encode_7 (p0 : Option Addr) (s1_0 : Sl) (s1_1 : Sl) (W : World) (R : Ending → World → Prop) (h : V_encode_Encode_7 p0 s1_0 s1_1 W R) : Calls Tryd.prog 42 #[(.pointer p0), (.agg #[s1_0.v, s1_1.v])] W R :=
  calls_of_vcF Tryd.mix Tryd.func42 (an := (.seq .nil (.seq .nil (.seq .nil (.seq .nil (.seq .nil .nil)))))) (args := [(.pointer p0), (.agg #[s1_0.v, s1_1.v])]) (Eq.mpr (by kernel_rfl : vcF Tryd.prog Tryd.f42 (.seq .nil (.seq .nil (.seq .nil (.seq .nil (.seq .nil .nil))))) [(.pointer p0), (.agg #[s1_0.v, s1_1.v])] W R = V_encode_Encode_7 p0 s1_0 s1_1 W R) h)

/-- (*plait/encode.out).expr -/
def V_encode_out_expr (p0 : Option Addr) (s1 : Sl) (W : World) (R : Ending → World → Prop) : Prop :=
  CallV Tryd.prog 60 #[s1.v] W fun v W1 => ∃ s8_0 : Sl, ∃ x8_1 : Int, v = (.tuple #[s8_0.v, (.int .i64 x8_1)]) ∧
  CallV Tryd.prog 21 #[(.pointer p0), (.bool ((x8_1 : Int) == 0))] W1 fun v W2 => v = (.tuple #[]) ∧
  ∃ q17 : Addr, p0 = some q17 ∧
  ∃ s19 : Sl, W2.cell? (q17.add 0) = some s19.v ∧
  RunV Tryd.prog (Builtin.append_ #[59, 59] 59 #[s19.v, s8_0.v]) W2 fun v W3 => ∃ s21 : Sl, v = s21.v ∧
  ∃ q22 : Addr, p0 = some q22 ∧
  stC W3 (q22.add 0) [s21.v] 0 fun W4 =>
  R (.returned (.tuple #[])) W4
theorem of_encode_out_expr (p0 : Option Addr) (s1 : Sl) (W : World) (R : Ending → World → Prop) (h : V_encode_out_expr p0 s1 W R) : Calls Tryd.prog 43 #[(.pointer p0), s1.v] W R :=
  calls_of_vcF Tryd.mix Tryd.func43 (an := (.seq .nil (.seq .nil .nil))) (args := [(.pointer p0), s1.v]) (Eq.mpr (by kernel_rfl : vcF Tryd.prog Tryd.f43 (.seq .nil (.seq .nil .nil)) [(.pointer p0), s1.v] W R = V_encode_out_expr p0 s1 W R) h)

/-- plait/encode.section[plait/api.Code] -/
def V_encode_section_Code (p0 : Option Addr) (x1 : Int) (x2 : Int) (s3 : Sl) (g4 : Nat) (W : World) (R : Ending → World → Prop) : Prop :=
  CallV Tryd.prog 21 #[(.pointer p0), (.bool (decide (((s3.len : Int) : Int) ≤ x2)))] W fun v W1 => v = (.tuple #[]) ∧
  Br (((s3.len : Int) : Int) == 0)
    (R (.returned (.tuple #[])) W1)
    (∃ q23 : Addr, p0 = some q23 ∧
    ∃ b25 : Bool, W1.cell? (q23.add 1) = some (.bool b25) ∧
    Na W1 #[(.slice none 0 0), (.bool b25)] 74 fun q27 W2 =>
    Na W2 #[(.int .i64 (s3.len : Int))] 3 fun q31 W3 =>
    CallV Tryd.prog 25 #[(.pointer (some q27)), (.slice (some q31) 1 1)] W3 fun v W4 => v = (.tuple #[]) ∧
    ∀ L : Int → World → Prop, (∀ (x35 : Int) W5, (
      Br (decide ((x35 : Int) < (s3.len : Int)))
        (∃ q37 : Addr, (s3.a = some q37 ∧ (0 : Int) ≤ x35 ∧ x35 < (s3.len : Int)) ∧
        ∃ s38_0 : Sl, W5.cell? ((q37.add ((x35 : Int).toNat * 2)).add 0) = some s38_0.v ∧
        ∃ s38_1 : Sl, W5.cell? ((q37.add ((x35 : Int).toNat * 2)).add 1) = some s38_1.v ∧
        Na W5 #[(.slice none 0 0), (.slice none 0 0)] 46 fun q12 W6 =>
        stC W6 q12 [s38_0.v, s38_1.v] 0 fun W7 =>
        ∃ s41_0 : Sl, W7.cell? (q12.add 0) = some s41_0.v ∧
        ∃ s41_1 : Sl, W7.cell? (q12.add 1) = some s41_1.v ∧
        CallV Tryd.prog g4 #[(.pointer (some q27)), (.agg #[s41_0.v, s41_1.v])] W7 fun v W8 => v = (.tuple #[]) ∧
        L (IntKind.wrap .i64 (x35 + 1)) W8)
        (CallV Tryd.prog 40 #[(.pointer p0), (.int .u8 x1), (.pointer (some q27))] W5 fun v W9 => v = (.tuple #[]) ∧
        R (.returned (.tuple #[])) W9)) → L x35 W5) →
    L 0 W4)
theorem of_encode_section_Code (p0 : Option Addr) (x1 : Int) (x2 : Int) (s3 : Sl) (g4 : Nat) (W : World) (R : Ending → World → Prop) (h : V_encode_section_Code p0 x1 x2 s3 g4 W R) : Calls Tryd.prog 44 #[(.pointer p0), (.int .u8 x1), (.int .i64 x2), s3.v, (.func (.func g4) #[] #[])] W R :=
  calls_of_vcF Tryd.mix Tryd.func44 (an := (.seq .nil (.seq (.seq .nil (.cond .nil .nil)) (.seq .nil (.seq .nil (.seq (.seq .nil (.blk (.lp [(35, .int .i64)] [12, 36, 37, 38, 39, 40, 41, 42, 43] (.seq .nil (.seq (.cond .nil .nil) (.seq (.blk (.seq .nil .nil)) .nil)))))) .nil)))))) (args := [(.pointer p0), (.int .u8 x1), (.int .i64 x2), s3.v, (.func (.func g4) #[] #[])]) (Eq.mpr (by kernel_rfl : vcF Tryd.prog Tryd.f44 (.seq .nil (.seq (.seq .nil (.cond .nil .nil)) (.seq .nil (.seq .nil (.seq (.seq .nil (.blk (.lp [(35, .int .i64)] [12, 36, 37, 38, 39, 40, 41, 42, 43] (.seq .nil (.seq (.cond .nil .nil) (.seq (.blk (.seq .nil .nil)) .nil)))))) .nil))))) [(.pointer p0), (.int .u8 x1), (.int .i64 x2), s3.v, (.func (.func g4) #[] #[])] W R = V_encode_section_Code p0 x1 x2 s3 g4 W R) h)

/-- plait/encode.code -/
def V_encode_code (p0 : Option Addr) (s1_0 : Sl) (s1_1 : Sl) (W : World) (R : Ending → World → Prop) : Prop :=
  Na W #[s1_0.v, s1_1.v] 46 fun q3 W1 =>
  ∃ s11 : Sl, W1.cell? (q3.add 0) = some s11.v ∧
  CallV Tryd.prog 21 #[(.pointer p0), (.bool (decide (((s11.len : Int) : Int) ≤ 512)))] W1 fun v W2 => v = (.tuple #[]) ∧
  Na W2 #[(.slice none 0 0), (.bool false)] 74 fun q16 W3 =>
  ∃ s18 : Sl, W3.cell? (q3.add 0) = some s18.v ∧
  ∀ L : Int → Int → World → Prop, (∀ (x5 : Int) (x20 : Int) W4, (
    Br (decide ((x20 : Int) < (s18.len : Int)))
      (Dw W4 fun W5 =>
      ∃ s27 : Sl, (((x20 : Int) == 0) = false → W5.cell? (q3.add 0) = some s27.v) ∧
      ∃ q29 : Addr, (((x20 : Int) == 0) = false → (s27.a = some q29 ∧ (0 : Int) ≤ x20 ∧ x20 < (s27.len : Int))) ∧
      ∃ x30 : Int, (((x20 : Int) == 0) = false → W5.cell? (q29.add ((x20 : Int).toNat * 1)) = some (.int .i64 x30)) ∧
      ∃ s32 : Sl, (((x20 : Int) == 0) = false → W5.cell? (q3.add 0) = some s32.v) ∧
      ∃ q35 : Addr, (((x20 : Int) == 0) = false → (s32.a = some q35 ∧ (0 : Int) ≤ (IntKind.wrap .i64 (x20 - 1)) ∧ (IntKind.wrap .i64 (x20 - 1)) < (s32.len : Int))) ∧
      ∃ x36 : Int, (((x20 : Int) == 0) = false → W5.cell? (q35.add (((IntKind.wrap .i64 (x20 - 1)) : Int).toNat * 1)) = some (.int .i64 x36)) ∧
      Br (((x20 : Int) == 0) || ((x30 : Int) != x36))
        (L (IntKind.wrap .i64 (x5 + 1)) (IntKind.wrap .i64 (x20 + 1)) W5)
        (L x5 (IntKind.wrap .i64 (x20 + 1)) W5))
      (Na W4 #[(.int .i64 x5)] 3 fun q44 W6 =>
      CallV Tryd.prog 25 #[(.pointer (some q16)), (.slice (some q44) 1 1)] W6 fun v W7 => v = (.tuple #[]) ∧
      ∀ L_1 : Int → World → Prop, (∀ (x7 : Int) W8, (
        ∃ s48 : Sl, W8.cell? (q3.add 0) = some s48.v ∧
        Br (decide ((x7 : Int) < (s48.len : Int)))
          (∀ L_2 : Int → World → Prop, (∀ (x8 : Int) W9, (
            Dw W9 fun W10 =>
            ∃ s55 : Sl, W10.cell? (q3.add 0) = some s55.v ∧
            ∃ s60 : Sl, ((decide (((IntKind.wrap .i64 (x7 + x8)) : Int) < (s55.len : Int))) = true → W10.cell? (q3.add 0) = some s60.v) ∧
            ∃ q64 : Addr, ((decide (((IntKind.wrap .i64 (x7 + x8)) : Int) < (s55.len : Int))) = true → (s60.a = some q64 ∧ (0 : Int) ≤ (IntKind.wrap .i64 (x7 + x8)) ∧ (IntKind.wrap .i64 (x7 + x8)) < (s60.len : Int))) ∧
            ∃ x65 : Int, ((decide (((IntKind.wrap .i64 (x7 + x8)) : Int) < (s55.len : Int))) = true → W10.cell? (q64.add (((IntKind.wrap .i64 (x7 + x8)) : Int).toNat * 1)) = some (.int .i64 x65)) ∧
            ∃ s67 : Sl, ((decide (((IntKind.wrap .i64 (x7 + x8)) : Int) < (s55.len : Int))) = true → W10.cell? (q3.add 0) = some s67.v) ∧
            ∃ q69 : Addr, ((decide (((IntKind.wrap .i64 (x7 + x8)) : Int) < (s55.len : Int))) = true → (s67.a = some q69 ∧ (0 : Int) ≤ x7 ∧ x7 < (s67.len : Int))) ∧
            ∃ x70 : Int, ((decide (((IntKind.wrap .i64 (x7 + x8)) : Int) < (s55.len : Int))) = true → W10.cell? (q69.add ((x7 : Int).toNat * 1)) = some (.int .i64 x70)) ∧
            Br ((decide (((IntKind.wrap .i64 (x7 + x8)) : Int) < (s55.len : Int))) && ((x65 : Int) == x70))
              (L_2 (IntKind.wrap .i64 (x8 + 1)) W10)
              (Na W10 #[(.int .i64 x8)] 3 fun q77 W11 =>
              CallV Tryd.prog 25 #[(.pointer (some q16)), (.slice (some q77) 1 1)] W11 fun v W12 => v = (.tuple #[]) ∧
              ∃ s81 : Sl, W12.cell? (q3.add 0) = some s81.v ∧
              ∃ q83 : Addr, (s81.a = some q83 ∧ (0 : Int) ≤ x7 ∧ x7 < (s81.len : Int)) ∧
              ∃ x84 : Int, W12.cell? (q83.add ((x7 : Int).toNat * 1)) = some (.int .i64 x84) ∧
              Na W12 #[(.int .i64 x84)] 3 fun q85 W13 =>
              CallV Tryd.prog 26 #[(.pointer (some q16)), (.slice (some q85) 1 1)] W13 fun v W14 => v = (.tuple #[]) ∧
              L_1 (IntKind.wrap .i64 (x7 + x8)) W14)) → L_2 x8 W9) →
          L_2 1 W8)
          (∃ s92 : Sl, W8.cell? (q3.add 1) = some s92.v ∧
          CallV Tryd.prog 43 #[(.pointer (some q16)), s92.v] W8 fun v W15 => v = (.tuple #[]) ∧
          ∃ q96 : Addr, (some q16) = some q96 ∧
          ∃ b98 : Bool, W15.cell? (q96.add 1) = some (.bool b98) ∧
          CallV Tryd.prog 21 #[(.pointer p0), (.bool (!b98))] W15 fun v W16 => v = (.tuple #[]) ∧
          ∃ q103 : Addr, (some q16) = some q103 ∧
          ∃ s105 : Sl, W16.cell? (q103.add 0) = some s105.v ∧
          Na W16 #[(.int .i64 (s105.len : Int))] 3 fun q107 W17 =>
          CallV Tryd.prog 25 #[(.pointer p0), (.slice (some q107) 1 1)] W17 fun v W18 => v = (.tuple #[]) ∧
          Dw W18 fun W19 =>
          ∃ q111 : Addr, p0 = some q111 ∧
          ∃ s113 : Sl, W19.cell? (q111.add 0) = some s113.v ∧
          ∃ q115 : Addr, (some q16) = some q115 ∧
          ∃ s117 : Sl, W19.cell? (q115.add 0) = some s117.v ∧
          RunV Tryd.prog (Builtin.append_ #[59, 59] 59 #[s113.v, s117.v]) W19 fun v W20 => ∃ s118 : Sl, v = s118.v ∧
          ∃ q119 : Addr, p0 = some q119 ∧
          stC W20 (q119.add 0) [s118.v] 0 fun W21 =>
          R (.returned (.tuple #[])) W21)) → L_1 x7 W8) →
      L_1 0 W7)) → L x5 x20 W4) →
  L 0 0 W3
theorem of_encode_code (p0 : Option Addr) (s1_0 : Sl) (s1_1 : Sl) (W : World) (R : Ending → World → Prop) (h : V_encode_code p0 s1_0 s1_1 W R) : Calls Tryd.prog 45 #[(.pointer p0), (.agg #[s1_0.v, s1_1.v])] W R :=
  calls_of_vcF Tryd.mix Tryd.func45 (an := (.seq .nil (.seq .nil (.seq .nil (.seq .nil (.seq (.seq .nil (.blk (.lp [(5, .int .i64), (20, .int .i64)] [6, 21, 22, 23, 24, 25, 26, 27, 28, 29, 30, 31, 32, 33, 34, 35, 36, 37, 38, 39, 40, 41] (.seq .nil (.seq (.cond .nil .nil) (.seq (.blk (.seq .nil (.seq .nil (.cond .nil .nil)))) .nil)))))) (.seq .nil (.seq (.seq .nil (.blk (.lp [(7, .int .i64)] [8, 46, 47, 48, 49, 50, 51, 52, 53, 54, 55, 56, 57, 58, 59, 60, 61, 62, 63, 64, 65, 66, 67, 68, 69, 70, 71, 72, 73, 74, 75, 76, 77, 78, 79, 80, 81, 82, 83, 84, 85, 86, 87, 88, 89] (.seq (.seq .nil (.cond .nil .nil)) (.blk (.seq .nil (.seq (.blk (.lp [(8, .int .i64)] [51, 52, 53, 54, 55, 56, 57, 58, 59, 60, 61, 62, 63, 64, 65, 66, 67, 68, 69, 70, 71, 72, 73, 74] (.seq (.seq .nil (.cond .nil .nil)) (.blk .nil)))) (.seq .nil (.seq .nil .nil))))))))) (.seq .nil (.seq .nil (.seq .nil .nil))))))))))) (args := [(.pointer p0), (.agg #[s1_0.v, s1_1.v])]) (Eq.mpr (by kernel_rfl : vcF Tryd.prog Tryd.f45 (.seq .nil (.seq .nil (.seq .nil (.seq .nil (.seq (.seq .nil (.blk (.lp [(5, .int .i64), (20, .int .i64)] [6, 21, 22, 23, 24, 25, 26, 27, 28, 29, 30, 31, 32, 33, 34, 35, 36, 37, 38, 39, 40, 41] (.seq .nil (.seq (.cond .nil .nil) (.seq (.blk (.seq .nil (.seq .nil (.cond .nil .nil)))) .nil)))))) (.seq .nil (.seq (.seq .nil (.blk (.lp [(7, .int .i64)] [8, 46, 47, 48, 49, 50, 51, 52, 53, 54, 55, 56, 57, 58, 59, 60, 61, 62, 63, 64, 65, 66, 67, 68, 69, 70, 71, 72, 73, 74, 75, 76, 77, 78, 79, 80, 81, 82, 83, 84, 85, 86, 87, 88, 89] (.seq (.seq .nil (.cond .nil .nil)) (.blk (.seq .nil (.seq (.blk (.lp [(8, .int .i64)] [51, 52, 53, 54, 55, 56, 57, 58, 59, 60, 61, 62, 63, 64, 65, 66, 67, 68, 69, 70, 71, 72, 73, 74] (.seq (.seq .nil (.cond .nil .nil)) (.blk .nil)))) (.seq .nil (.seq .nil .nil))))))))) (.seq .nil (.seq .nil (.seq .nil .nil)))))))))) [(.pointer p0), (.agg #[s1_0.v, s1_1.v])] W R = V_encode_code p0 s1_0 s1_1 W R) h)

/-- plait/encode.section[plait/api.Data] -/
def V_encode_section_Data (p0 : Option Addr) (x1 : Int) (x2 : Int) (s3 : Sl) (g4 : Nat) (W : World) (R : Ending → World → Prop) : Prop :=
  CallV Tryd.prog 21 #[(.pointer p0), (.bool (decide (((s3.len : Int) : Int) ≤ x2)))] W fun v W1 => v = (.tuple #[]) ∧
  Br (((s3.len : Int) : Int) == 0)
    (R (.returned (.tuple #[])) W1)
    (∃ q23 : Addr, p0 = some q23 ∧
    ∃ b25 : Bool, W1.cell? (q23.add 1) = some (.bool b25) ∧
    Na W1 #[(.slice none 0 0), (.bool b25)] 74 fun q27 W2 =>
    Na W2 #[(.int .i64 (s3.len : Int))] 3 fun q31 W3 =>
    CallV Tryd.prog 25 #[(.pointer (some q27)), (.slice (some q31) 1 1)] W3 fun v W4 => v = (.tuple #[]) ∧
    ∀ L : Int → World → Prop, (∀ (x35 : Int) W5, (
      Br (decide ((x35 : Int) < (s3.len : Int)))
        (∃ q37 : Addr, (s3.a = some q37 ∧ (0 : Int) ≤ x35 ∧ x35 < (s3.len : Int)) ∧
        ∃ s38_0 : Sl, W5.cell? ((q37.add ((x35 : Int).toNat * 2)).add 0) = some s38_0.v ∧
        ∃ s38_1 : Sl, W5.cell? ((q37.add ((x35 : Int).toNat * 2)).add 1) = some s38_1.v ∧
        Na W5 #[(.slice none 0 0), (.slice none 0 0)] 104 fun q12 W6 =>
        stC W6 q12 [s38_0.v, s38_1.v] 0 fun W7 =>
        ∃ s41_0 : Sl, W7.cell? (q12.add 0) = some s41_0.v ∧
        ∃ s41_1 : Sl, W7.cell? (q12.add 1) = some s41_1.v ∧
        CallV Tryd.prog g4 #[(.pointer (some q27)), (.agg #[s41_0.v, s41_1.v])] W7 fun v W8 => v = (.tuple #[]) ∧
        L (IntKind.wrap .i64 (x35 + 1)) W8)
        (CallV Tryd.prog 40 #[(.pointer p0), (.int .u8 x1), (.pointer (some q27))] W5 fun v W9 => v = (.tuple #[]) ∧
        R (.returned (.tuple #[])) W9)) → L x35 W5) →
    L 0 W4)
theorem of_encode_section_Data (p0 : Option Addr) (x1 : Int) (x2 : Int) (s3 : Sl) (g4 : Nat) (W : World) (R : Ending → World → Prop) (h : V_encode_section_Data p0 x1 x2 s3 g4 W R) : Calls Tryd.prog 46 #[(.pointer p0), (.int .u8 x1), (.int .i64 x2), s3.v, (.func (.func g4) #[] #[])] W R :=
  calls_of_vcF Tryd.mix Tryd.func46 (an := (.seq .nil (.seq (.seq .nil (.cond .nil .nil)) (.seq .nil (.seq .nil (.seq (.seq .nil (.blk (.lp [(35, .int .i64)] [12, 36, 37, 38, 39, 40, 41, 42, 43] (.seq .nil (.seq (.cond .nil .nil) (.seq (.blk (.seq .nil .nil)) .nil)))))) .nil)))))) (args := [(.pointer p0), (.int .u8 x1), (.int .i64 x2), s3.v, (.func (.func g4) #[] #[])]) (Eq.mpr (by kernel_rfl : vcF Tryd.prog Tryd.f46 (.seq .nil (.seq (.seq .nil (.cond .nil .nil)) (.seq .nil (.seq .nil (.seq (.seq .nil (.blk (.lp [(35, .int .i64)] [12, 36, 37, 38, 39, 40, 41, 42, 43] (.seq .nil (.seq (.cond .nil .nil) (.seq (.blk (.seq .nil .nil)) .nil)))))) .nil))))) [(.pointer p0), (.int .u8 x1), (.int .i64 x2), s3.v, (.func (.func g4) #[] #[])] W R = V_encode_section_Data p0 x1 x2 s3 g4 W R) h)

/-- plait/encode.Encode$8 -/
def V_encode_Encode_8 (p0 : Option Addr) (s1_0 : Sl) (s1_1 : Sl) (W : World) (R : Ending → World → Prop) : Prop :=
  Na W #[s1_0.v, s1_1.v] 104 fun q3 W1 =>
  Na W1 #[(.int .u8 0)] 5 fun q5 W2 =>
  CallV Tryd.prog 24 #[(.pointer p0), (.slice (some q5) 1 1)] W2 fun v W3 => v = (.tuple #[]) ∧
  ∃ s9 : Sl, W3.cell? (q3.add 0) = some s9.v ∧
  CallV Tryd.prog 43 #[(.pointer p0), s9.v] W3 fun v W4 => v = (.tuple #[]) ∧
  ∃ s13 : Sl, W4.cell? (q3.add 1) = some s13.v ∧
  Na W4 #[(.int .i64 (s13.len : Int))] 3 fun q15 W5 =>
  CallV Tryd.prog 25 #[(.pointer p0), (.slice (some q15) 1 1)] W5 fun v W6 => v = (.tuple #[]) ∧
  ∃ s19 : Sl, W6.cell? (q3.add 1) = some s19.v ∧
  CallV Tryd.prog 24 #[(.pointer p0), s19.v] W6 fun v W7 => v = (.tuple #[]) ∧
  R (.returned (.tuple #[])) W7
theorem of_encode_Encode_8 (p0 : Option Addr) (s1_0 : Sl) (s1_1 : Sl) (W : World) (R : Ending → World → Prop) (h : V_encode_Encode_8 p0 s1_0 s1_1 W R) : Calls Tryd.prog 47 #[(.pointer p0), (.agg #[s1_0.v, s1_1.v])] W R :=
  calls_of_vcF Tryd.mix Tryd.func47 (an := (.seq .nil (.seq .nil (.seq .nil (.seq .nil .nil))))) (args := [(.pointer p0), (.agg #[s1_0.v, s1_1.v])]) (Eq.mpr (by kernel_rfl : vcF Tryd.prog Tryd.f47 (.seq .nil (.seq .nil (.seq .nil (.seq .nil .nil)))) [(.pointer p0), (.agg #[s1_0.v, s1_1.v])] W R = V_encode_Encode_8 p0 s1_0 s1_1 W R) h)

/-- slices.Concat[[]plait/api.Limits,plait/api.Limits] -/
def V_slices_Concat_Limits (s0 : Sl) (W : World) (R : Ending → World → Prop) : Prop :=
  ∀ L : Int → Int → World → Prop, (∀ (x3 : Int) (x11 : Int) W1, (
    Br (decide ((x11 : Int) < (s0.len : Int)))
      (∃ q13 : Addr, (s0.a = some q13 ∧ (0 : Int) ≤ x11 ∧ x11 < (s0.len : Int)) ∧
      ∃ s14 : Sl, W1.cell? (q13.add ((x11 : Int).toNat * 1)) = some s14.v ∧
      Br (decide (((IntKind.wrap .i64 (x3 + (s14.len : Int))) : Int) < 0))
        (RunV Tryd.prog (Instr.makeInterface 9 (.string ({ data := #[108, 101, 110, 32, 111, 117, 116, 32, 111, 102, 32, 114, 97, 110, 103, 101] } : ByteArray))) W1 fun v W2 => ∃ v21 : Value, v = v21 ∧
        False)
        (L (IntKind.wrap .i64 (x3 + (s14.len : Int))) (IntKind.wrap .i64 (x11 + 1)) W1))
      (CallV Tryd.prog 61 #[(.slice none 0 0), (.int .i64 x3)] W1 fun v W4 => ∃ s24 : Sl, v = s24.v ∧
      ∀ L_1 : Sl → Int → World → Prop, (∀ (s6 : Sl) (x27 : Int) W5, (
        Br (decide ((x27 : Int) < (s0.len : Int)))
          (∃ q29 : Addr, (s0.a = some q29 ∧ (0 : Int) ≤ x27 ∧ x27 < (s0.len : Int)) ∧
          ∃ s30 : Sl, W5.cell? (q29.add ((x27 : Int).toNat * 1)) = some s30.v ∧
          RunV Tryd.prog (Builtin.append_ #[25, 25] 25 #[s6.v, s30.v]) W5 fun v W6 => ∃ s33 : Sl, v = s33.v ∧
          L_1 s33 (IntKind.wrap .i64 (x27 + 1)) W6)
          (R (.returned s6.v) W5)) → L_1 s6 x27 W5) →
      L_1 s24 0 W4)) → L x3 x11 W1) →
  L 0 0 W
theorem of_slices_Concat_Limits (s0 : Sl) (W : World) (R : Ending → World → Prop) (h : V_slices_Concat_Limits s0 W R) : Calls Tryd.prog 48 #[s0.v] W R :=
  calls_of_vcF Tryd.mix Tryd.func48 (an := (.seq .nil (.seq .nil (.seq (.seq .nil (.blk (.lp [(3, .int .i64), (11, .int .i64)] [5, 12, 13, 14, 15, 16, 17, 18, 19, 20, 21, 22] (.seq .nil (.seq (.cond .nil .nil) (.seq (.blk (.seq .nil (.seq .nil (.seq .nil (.cond .nil .nil))))) .nil)))))) (.seq .nil (.seq (.seq .nil (.blk (.lp [(6, .sl), (27, .int .i64)] [8, 28, 29, 30, 31, 32, 33, 34] (.seq .nil (.seq (.cond .nil .nil) (.seq (.blk (.seq .nil .nil)) .nil)))))) (.seq .nil .nil))))))) (args := [s0.v]) (Eq.mpr (by kernel_rfl : vcF Tryd.prog Tryd.f48 (.seq .nil (.seq .nil (.seq (.seq .nil (.blk (.lp [(3, .int .i64), (11, .int .i64)] [5, 12, 13, 14, 15, 16, 17, 18, 19, 20, 21, 22] (.seq .nil (.seq (.cond .nil .nil) (.seq (.blk (.seq .nil (.seq .nil (.seq .nil (.cond .nil .nil))))) .nil)))))) (.seq .nil (.seq (.seq .nil (.blk (.lp [(6, .sl), (27, .int .i64)] [8, 28, 29, 30, 31, 32, 33, 34] (.seq .nil (.seq (.cond .nil .nil) (.seq (.blk (.seq .nil .nil)) .nil)))))) (.seq .nil .nil)))))) [s0.v] W R = V_slices_Concat_Limits s0 W R) h)

/-- plait/valid.constant -/
def V_valid_constant (s0 : Sl) (x1 : Int) (W : World) (R : Ending → World → Prop) : Prop :=
  Br (((s0.len : Int) : Int) != 2)
    (R (.returned (.bool false)) W)
    (∃ q9 : Addr, (s0.a = some q9 ∧ (0 : Int) ≤ 0 ∧ 0 < (s0.len : Int)) ∧
    ∃ x11 : Int, W.cell? ((q9.add ((0 : Int).toNat * 6)).add 0) = some (.int .i64 x11) ∧
    Br ((x11 : Int) == 65)
      (R (.returned (.bool ((x1 : Int) == 127))) W)
      (Br ((x11 : Int) == 66)
        (R (.returned (.bool ((x1 : Int) == 126))) W)
        (Br ((x11 : Int) == 64780)
          (R (.returned (.bool ((x1 : Int) == 123))) W)
          (R (.returned (.bool false)) W))))
theorem of_valid_constant (s0 : Sl) (x1 : Int) (W : World) (R : Ending → World → Prop) (h : V_valid_constant s0 x1 W R) : Calls Tryd.prog 49 #[s0.v, (.int .i64 x1)] W R :=
  calls_of_vcF Tryd.mix Tryd.func49 (an := (.seq .nil (.seq (.seq .nil (.cond (.seq .nil .nil) .nil)) (.seq (.seq .nil (.blk (.seq .nil (.cond (.seq .nil .nil) (.seq .nil (.cond (.seq .nil .nil) (.seq .nil (.cond (.seq .nil .nil) .nil)))))))) (.seq .nil .nil))))) (args := [s0.v, (.int .i64 x1)]) (Eq.mpr (by kernel_rfl : vcF Tryd.prog Tryd.f49 (.seq .nil (.seq (.seq .nil (.cond (.seq .nil .nil) .nil)) (.seq (.seq .nil (.blk (.seq .nil (.cond (.seq .nil .nil) (.seq .nil (.cond (.seq .nil .nil) (.seq .nil (.cond (.seq .nil .nil) .nil)))))))) (.seq .nil .nil)))) [s0.v, (.int .i64 x1)] W R = V_valid_constant s0 x1 W R) h)

/-- plait/valid.names -/
def V_valid_names (s0_0 : Sl) (s0_1 : Sl) (s0_2 : Sl) (s0_3 : Sl) (s0_4 : Sl) (s0_5 : Sl) (s0_6 : Sl) (x0_7 : Int) (s0_8 : Sl) (s0_9 : Sl) (s0_10 : Sl) (x1 : Int) (W : World) (R : Ending → World → Prop) : Prop :=
  Na W #[s0_0.v, s0_1.v, s0_2.v, s0_3.v, s0_4.v, s0_5.v, s0_6.v, (.int .i64 x0_7), s0_8.v, s0_9.v, s0_10.v] 32 fun q2 W1 =>
  ∃ s13 : Sl, W1.cell? (q2.add 3) = some s13.v ∧
  ∃ s16 : Sl, W1.cell? (q2.add 4) = some s16.v ∧
  ∃ s19 : Sl, W1.cell? (q2.add 5) = some s19.v ∧
  Na W1 #[(.int .i64 0), (.int .i64 0), (.int .i64 0), (.int .i64 0)] 126 fun q5 W2 =>
  stC W2 q5 [(.int .i64 x1), (.int .i64 (s13.len : Int)), (.int .i64 (s16.len : Int)), (.int .i64 (s19.len : Int))] 0 fun W3 =>
  RunV Tryd.prog (Instr.makeMap 127 none) W3 fun v W4 => ∃ m22 : Option Nat, v = (.map m22) ∧
  ∃ s24 : Sl, W4.cell? (q2.add 6) = some s24.v ∧
  ∀ L : Int → World → Prop, (∀ (x26 : Int) W5, (
    Br (decide ((x26 : Int) < (s24.len : Int)))
      (∃ q29 : Addr, (s24.a = some q29 ∧ (0 : Int) ≤ x26 ∧ x26 < (s24.len : Int)) ∧
      ∃ s30_0 : ByteArray, W5.cell? ((q29.add ((x26 : Int).toNat * 3)).add 0) = some (.string s30_0) ∧
      ∃ x30_1 : Int, W5.cell? ((q29.add ((x26 : Int).toNat * 3)).add 1) = some (.int .i64 x30_1) ∧
      ∃ x30_2 : Int, W5.cell? ((q29.add ((x26 : Int).toNat * 3)).add 2) = some (.int .i64 x30_2) ∧
      Na W5 #[(.string (ByteArray.mk #[])), (.int .i64 0), (.int .i64 0)] 71 fun q8 W6 =>
      stC W6 q8 [(.string s30_0), (.int .i64 x30_1), (.int .i64 x30_2)] 0 fun W7 =>
      Dw W7 fun W8 =>
      ∃ S : World → Prop, S W8 ∧
      ∃ s33 : ByteArray, (∀ w, S w → w.cell? (q8.add 0) = some (.string s33)) ∧
      RunV Tryd.prog (Instr.lookup 127 (.map m22) (.string s33) false) W8 fun v W9 => ∃ x34 : Int, v = (.int .i64 x34) ∧
      S W9 ∧
      ∃ x38 : Int, ((decide ((x34 : Int) > 0)) = false → (∀ w, S w → w.cell? (q8.add 2) = some (.int .i64 x38))) ∧
      ∃ x40 : Int, ((decide ((x34 : Int) > 0)) = false → (∀ w, S w → w.cell? (q8.add 1) = some (.int .i64 x40))) ∧
      ((decide ((x34 : Int) > 0)) = false → ((0 : Int) ≤ x40 ∧ x40 < (4 : Int))) ∧
      ∃ x42 : Int, ((decide ((x34 : Int) > 0)) = false → (∀ w, S w → w.cell? (q5.add ((x40 : Int).toNat * 1)) = some (.int .i64 x42))) ∧
      Br ((decide ((x34 : Int) > 0)) || (decide ((x38 : Int) ≥ x42)))
        (R (.returned (.bool false)) W9)
        (∃ s47 : ByteArray, W9.cell? (q8.add 0) = some (.string s47) ∧
        RunU Tryd.prog (Instr.mapUpdate 127 (.map m22) (.string s47) (.int .i64 (IntKind.wrap .i64 (x26 + 1)))) W9 fun W10 =>
        L (IntKind.wrap .i64 (x26 + 1)) W10))
      (∃ x52 : Int, W5.cell? (q2.add 7) = some (.int .i64 x52) ∧
      Br ((x52 : Int) == (-1))
        (R (.returned (.bool true)) W5)
        (∃ s55_0 : Sl, W5.cell? (q2.add 0) = some s55_0.v ∧
        ∃ s55_1 : Sl, W5.cell? (q2.add 1) = some s55_1.v ∧
        ∃ s55_2 : Sl, W5.cell? (q2.add 2) = some s55_2.v ∧
        ∃ s55_3 : Sl, W5.cell? (q2.add 3) = some s55_3.v ∧
        ∃ s55_4 : Sl, W5.cell? (q2.add 4) = some s55_4.v ∧
        ∃ s55_5 : Sl, W5.cell? (q2.add 5) = some s55_5.v ∧
        ∃ s55_6 : Sl, W5.cell? (q2.add 6) = some s55_6.v ∧
        ∃ x55_7 : Int, W5.cell? (q2.add 7) = some (.int .i64 x55_7) ∧
        ∃ s55_8 : Sl, W5.cell? (q2.add 8) = some s55_8.v ∧
        ∃ s55_9 : Sl, W5.cell? (q2.add 9) = some s55_9.v ∧
        ∃ s55_10 : Sl, W5.cell? (q2.add 10) = some s55_10.v ∧
        ∃ x57 : Int, W5.cell? (q2.add 7) = some (.int .i64 x57) ∧
        CallV Tryd.prog 7 #[(.agg #[s55_0.v, s55_1.v, s55_2.v, s55_3.v, s55_4.v, s55_5.v, s55_6.v, (.int .i64 x55_7), s55_8.v, s55_9.v, s55_10.v]), (.int .i64 x57)] W5 fun v W11 => ∃ s58_0_0 : Sl, ∃ s58_0_1 : Sl, ∃ b58_1 : Bool, v = (.tuple #[(.agg #[s58_0_0.v, s58_0_1.v]), (.bool b58_1)]) ∧
        Na W11 #[(.slice none 0 0), (.slice none 0 0)] 37 fun q9 W12 =>
        stC W12 q9 [s58_0_0.v, s58_0_1.v] 0 fun W13 =>
        ∃ s64 : Sl, (b58_1 = true → W13.cell? (q9.add 0) = some s64.v) ∧
        ∃ s70 : Sl, ((b58_1 && (((s64.len : Int) : Int) == 0)) = true → W13.cell? (q9.add 1) = some s70.v) ∧
        R (.returned (.bool ((b58_1 && (((s64.len : Int) : Int) == 0)) && (((s70.len : Int) : Int) == 0)))) W13))) → L x26 W5) →
  L 0 W4
theorem of_valid_names (s0_0 : Sl) (s0_1 : Sl) (s0_2 : Sl) (s0_3 : Sl) (s0_4 : Sl) (s0_5 : Sl) (s0_6 : Sl) (x0_7 : Int) (s0_8 : Sl) (s0_9 : Sl) (s0_10 : Sl) (x1 : Int) (W : World) (R : Ending → World → Prop) (h : V_valid_names s0_0 s0_1 s0_2 s0_3 s0_4 s0_5 s0_6 x0_7 s0_8 s0_9 s0_10 x1 W R) : Calls Tryd.prog 50 #[(.agg #[s0_0.v, s0_1.v, s0_2.v, s0_3.v, s0_4.v, s0_5.v, s0_6.v, (.int .i64 x0_7), s0_8.v, s0_9.v, s0_10.v]), (.int .i64 x1)] W R :=
  calls_of_vcF Tryd.mix Tryd.func50 (an := (.seq .nil (.seq .nil (.seq .nil (.seq (.seq .nil (.blk (.lp [(26, .int .i64)] [4, 7, 8, 27, 28, 29, 30, 31, 32, 33, 34, 35, 36, 37, 38, 39, 40, 41, 42, 43, 44, 45, 46, 47, 48, 49, 50] (.seq .nil (.seq (.cond .nil .nil) (.seq (.blk (.seq .nil (.seq (.seq .nil (.cond (.seq .nil .nil) .nil)) .nil))) .nil)))))) (.seq (.seq .nil (.cond (.seq .nil .nil) .nil)) (.seq .nil (.seq .nil .nil)))))))) (args := [(.agg #[s0_0.v, s0_1.v, s0_2.v, s0_3.v, s0_4.v, s0_5.v, s0_6.v, (.int .i64 x0_7), s0_8.v, s0_9.v, s0_10.v]), (.int .i64 x1)]) (Eq.mpr (by kernel_rfl : vcF Tryd.prog Tryd.f50 (.seq .nil (.seq .nil (.seq .nil (.seq (.seq .nil (.blk (.lp [(26, .int .i64)] [4, 7, 8, 27, 28, 29, 30, 31, 32, 33, 34, 35, 36, 37, 38, 39, 40, 41, 42, 43, 44, 45, 46, 47, 48, 49, 50] (.seq .nil (.seq (.cond .nil .nil) (.seq (.blk (.seq .nil (.seq (.seq .nil (.cond (.seq .nil .nil) .nil)) .nil))) .nil)))))) (.seq (.seq .nil (.cond (.seq .nil .nil) .nil)) (.seq .nil (.seq .nil .nil))))))) [(.agg #[s0_0.v, s0_1.v, s0_2.v, s0_3.v, s0_4.v, s0_5.v, s0_6.v, (.int .i64 x0_7), s0_8.v, s0_9.v, s0_10.v]), (.int .i64 x1)] W R = V_valid_names s0_0 s0_1 s0_2 s0_3 s0_4 s0_5 s0_6 x0_7 s0_8 s0_9 s0_10 x1 W R) h)

/-- plait/valid.segments -/
def V_valid_segments (s0_0 : Sl) (s0_1 : Sl) (s0_2 : Sl) (s0_3 : Sl) (s0_4 : Sl) (s0_5 : Sl) (s0_6 : Sl) (x0_7 : Int) (s0_8 : Sl) (s0_9 : Sl) (s0_10 : Sl) (x1 : Int) (W : World) (R : Ending → World → Prop) : Prop :=
  Na W #[s0_0.v, s0_1.v, s0_2.v, s0_3.v, s0_4.v, s0_5.v, s0_6.v, (.int .i64 x0_7), s0_8.v, s0_9.v, s0_10.v] 32 fun q2 W1 =>
  ∃ s12 : Sl, W1.cell? (q2.add 8) = some s12.v ∧
  ∀ L : Int → World → Prop, (∀ (x14 : Int) W2, (
    Br (decide ((x14 : Int) < (s12.len : Int)))
      (∃ q16 : Addr, (s12.a = some q16 ∧ (0 : Int) ≤ x14 ∧ x14 < (s12.len : Int)) ∧
      ∃ s17_0 : Sl, W2.cell? ((q16.add ((x14 : Int).toNat * 2)).add 0) = some s17_0.v ∧
      ∃ s17_1 : Sl, W2.cell? ((q16.add ((x14 : Int).toNat * 2)).add 1) = some s17_1.v ∧
      Na W2 #[(.slice none 0 0), (.slice none 0 0)] 97 fun q6 W3 =>
      stC W3 q6 [s17_0.v, s17_1.v] 0 fun W4 =>
      ∀ J : World → Prop, (∀ W5, (
        ∃ s29 : Sl, W5.cell? (q6.add 1) = some s29.v ∧
        ∀ L_1 : Int → World → Prop, (∀ (x31 : Int) W6, (
          Br (decide ((x31 : Int) < (s29.len : Int)))
            (∃ q33 : Addr, (s29.a = some q33 ∧ (0 : Int) ≤ x31 ∧ x31 < (s29.len : Int)) ∧
            ∃ x34 : Int, W6.cell? (q33.add ((x31 : Int).toNat * 1)) = some (.int .i64 x34) ∧
            Br (decide ((x34 : Int) ≥ x1))
              (R (.returned (.bool false)) W6)
              (L_1 (IntKind.wrap .i64 (x31 + 1)) W6))
            (L (IntKind.wrap .i64 (x14 + 1)) W6)) → L_1 x31 W6) →
        L_1 0 W5) → J W5) →
      ∀ J_1 : Bool → World → Prop, (∀ (b27 : Bool) W7, (
        Br b27
          (R (.returned (.bool false)) W7)
          (J W7)) → J_1 b27 W7) →
      ∃ s19 : Sl, W4.cell? (q2.add 3) = some s19.v ∧
      ∃ s24 : Sl, ((((s19.len : Int) : Int) == 0) = false → W4.cell? (q6.add 0) = some s24.v) ∧
      ((((s19.len : Int) : Int) == 0) = false →
        CallV Tryd.prog 49 #[s24.v, (.int .i64 127)] W4 fun v W8 => ∃ b25 : Bool, v = (.bool b25) ∧
        J_1 (!b25) W8) ∧
      ((((s19.len : Int) : Int) == 0) = !false →
        J_1 true W4))
      (∃ s41 : Sl, W2.cell? (q2.add 10) = some s41.v ∧
      ∀ L_2 : Int → World → Prop, (∀ (x43 : Int) W9, (
        Br (decide ((x43 : Int) < (s41.len : Int)))
          (∃ q45 : Addr, (s41.a = some q45 ∧ (0 : Int) ≤ x43 ∧ x43 < (s41.len : Int)) ∧
          ∃ s46_0 : Sl, W9.cell? ((q45.add ((x43 : Int).toNat * 2)).add 0) = some s46_0.v ∧
          ∃ s46_1 : Sl, W9.cell? ((q45.add ((x43 : Int).toNat * 2)).add 1) = some s46_1.v ∧
          Na W9 #[(.slice none 0 0), (.slice none 0 0)] 104 fun q10 W10 =>
          stC W10 q10 [s46_0.v, s46_1.v] 0 fun W11 =>
          ∀ J_2 : Bool → World → Prop, (∀ (b56 : Bool) W12, (
            Br b56
              (R (.returned (.bool false)) W12)
              (L_2 (IntKind.wrap .i64 (x43 + 1)) W12)) → J_2 b56 W12) →
          ∃ s48 : Sl, W11.cell? (q2.add 4) = some s48.v ∧
          ∃ s53 : Sl, ((((s48.len : Int) : Int) == 0) = false → W11.cell? (q10.add 0) = some s53.v) ∧
          ((((s48.len : Int) : Int) == 0) = false →
            CallV Tryd.prog 49 #[s53.v, (.int .i64 127)] W11 fun v W13 => ∃ b54 : Bool, v = (.bool b54) ∧
            J_2 (!b54) W13) ∧
          ((((s48.len : Int) : Int) == 0) = !false →
            J_2 true W11))
          (R (.returned (.bool true)) W9)) → L_2 x43 W9) →
      L_2 0 W2)) → L x14 W2) →
  L 0 W1
theorem of_valid_segments (s0_0 : Sl) (s0_1 : Sl) (s0_2 : Sl) (s0_3 : Sl) (s0_4 : Sl) (s0_5 : Sl) (s0_6 : Sl) (x0_7 : Int) (s0_8 : Sl) (s0_9 : Sl) (s0_10 : Sl) (x1 : Int) (W : World) (R : Ending → World → Prop) (h : V_valid_segments s0_0 s0_1 s0_2 s0_3 s0_4 s0_5 s0_6 x0_7 s0_8 s0_9 s0_10 x1 W R) : Calls Tryd.prog 51 #[(.agg #[s0_0.v, s0_1.v, s0_2.v, s0_3.v, s0_4.v, s0_5.v, s0_6.v, (.int .i64 x0_7), s0_8.v, s0_9.v, s0_10.v]), (.int .i64 x1)] W R :=
  calls_of_vcF Tryd.mix Tryd.func51 (an := (.seq .nil (.seq (.seq .nil (.blk (.lp [(14, .int .i64)] [4, 6, 8, 15, 16, 17, 18, 19, 20, 21, 22, 23, 24, 25, 26, 27, 28, 29, 30, 31, 32, 33, 34, 35, 36, 37, 38, 39] (.seq .nil (.seq (.cond .nil .nil) (.seq (.blk (.seq .nil (.jn [] [4, 18, 19, 20, 21, 22, 23, 24, 25, 26, 27] (.jn [(27, .bool)] [18, 19, 20, 21, 22, 23, 24, 25, 26] .nil (.cond (.seq .nil .nil) .nil)) (.seq .nil (.blk (.lp [(31, .int .i64)] [4, 8, 32, 33, 34, 35, 36, 37, 38] (.seq .nil (.seq (.cond .nil .nil) (.seq (.blk (.seq .nil (.seq .nil (.cond (.seq .nil .nil) .nil)))) .nil))))))))) .nil)))))) (.seq (.seq .nil (.blk (.lp [(43, .int .i64)] [4, 10, 44, 45, 46, 47, 48, 49, 50, 51, 52, 53, 54, 55, 56, 57] (.seq .nil (.seq (.cond .nil .nil) (.seq (.blk (.seq .nil (.jn [(56, .bool)] [47, 48, 49, 50, 51, 52, 53, 54, 55] .nil (.cond (.seq .nil .nil) .nil)))) .nil)))))) (.seq .nil .nil))))) (args := [(.agg #[s0_0.v, s0_1.v, s0_2.v, s0_3.v, s0_4.v, s0_5.v, s0_6.v, (.int .i64 x0_7), s0_8.v, s0_9.v, s0_10.v]), (.int .i64 x1)]) (Eq.mpr (by kernel_rfl : vcF Tryd.prog Tryd.f51 (.seq .nil (.seq (.seq .nil (.blk (.lp [(14, .int .i64)] [4, 6, 8, 15, 16, 17, 18, 19, 20, 21, 22, 23, 24, 25, 26, 27, 28, 29, 30, 31, 32, 33, 34, 35, 36, 37, 38, 39] (.seq .nil (.seq (.cond .nil .nil) (.seq (.blk (.seq .nil (.jn [] [4, 18, 19, 20, 21, 22, 23, 24, 25, 26, 27] (.jn [(27, .bool)] [18, 19, 20, 21, 22, 23, 24, 25, 26] .nil (.cond (.seq .nil .nil) .nil)) (.seq .nil (.blk (.lp [(31, .int .i64)] [4, 8, 32, 33, 34, 35, 36, 37, 38] (.seq .nil (.seq (.cond .nil .nil) (.seq (.blk (.seq .nil (.seq .nil (.cond (.seq .nil .nil) .nil)))) .nil))))))))) .nil)))))) (.seq (.seq .nil (.blk (.lp [(43, .int .i64)] [4, 10, 44, 45, 46, 47, 48, 49, 50, 51, 52, 53, 54, 55, 56, 57] (.seq .nil (.seq (.cond .nil .nil) (.seq (.blk (.seq .nil (.jn [(56, .bool)] [47, 48, 49, 50, 51, 52, 53, 54, 55] .nil (.cond (.seq .nil .nil) .nil)))) .nil)))))) (.seq .nil .nil)))) [(.agg #[s0_0.v, s0_1.v, s0_2.v, s0_3.v, s0_4.v, s0_5.v, s0_6.v, (.int .i64 x0_7), s0_8.v, s0_9.v, s0_10.v]), (.int .i64 x1)] W R = V_valid_segments s0_0 s0_1 s0_2 s0_3 s0_4 s0_5 s0_6 x0_7 s0_8 s0_9 s0_10 x1 W R) h)

/-- slices.Concat[[]int,int] -/
def V_slices_Concat_int (s0 : Sl) (W : World) (R : Ending → World → Prop) : Prop :=
  ∀ L : Int → Int → World → Prop, (∀ (x3 : Int) (x11 : Int) W1, (
    Br (decide ((x11 : Int) < (s0.len : Int)))
      (∃ q13 : Addr, (s0.a = some q13 ∧ (0 : Int) ≤ x11 ∧ x11 < (s0.len : Int)) ∧
      ∃ s14 : Sl, W1.cell? (q13.add ((x11 : Int).toNat * 1)) = some s14.v ∧
      Br (decide (((IntKind.wrap .i64 (x3 + (s14.len : Int))) : Int) < 0))
        (RunV Tryd.prog (Instr.makeInterface 9 (.string ({ data := #[108, 101, 110, 32, 111, 117, 116, 32, 111, 102, 32, 114, 97, 110, 103, 101] } : ByteArray))) W1 fun v W2 => ∃ v21 : Value, v = v21 ∧
        False)
        (L (IntKind.wrap .i64 (x3 + (s14.len : Int))) (IntKind.wrap .i64 (x11 + 1)) W1))
      (CallV Tryd.prog 62 #[(.slice none 0 0), (.int .i64 x3)] W1 fun v W4 => ∃ s24 : Sl, v = s24.v ∧
      ∀ L_1 : Sl → Int → World → Prop, (∀ (s6 : Sl) (x27 : Int) W5, (
        Br (decide ((x27 : Int) < (s0.len : Int)))
          (∃ q29 : Addr, (s0.a = some q29 ∧ (0 : Int) ≤ x27 ∧ x27 < (s0.len : Int)) ∧
          ∃ s30 : Sl, W5.cell? (q29.add ((x27 : Int).toNat * 1)) = some s30.v ∧
          RunV Tryd.prog (Builtin.append_ #[24, 24] 24 #[s6.v, s30.v]) W5 fun v W6 => ∃ s33 : Sl, v = s33.v ∧
          L_1 s33 (IntKind.wrap .i64 (x27 + 1)) W6)
          (R (.returned s6.v) W5)) → L_1 s6 x27 W5) →
      L_1 s24 0 W4)) → L x3 x11 W1) →
  L 0 0 W
theorem of_slices_Concat_int (s0 : Sl) (W : World) (R : Ending → World → Prop) (h : V_slices_Concat_int s0 W R) : Calls Tryd.prog 52 #[s0.v] W R :=
  calls_of_vcF Tryd.mix Tryd.func52 (an := (.seq .nil (.seq .nil (.seq (.seq .nil (.blk (.lp [(3, .int .i64), (11, .int .i64)] [5, 12, 13, 14, 15, 16, 17, 18, 19, 20, 21, 22] (.seq .nil (.seq (.cond .nil .nil) (.seq (.blk (.seq .nil (.seq .nil (.seq .nil (.cond .nil .nil))))) .nil)))))) (.seq .nil (.seq (.seq .nil (.blk (.lp [(6, .sl), (27, .int .i64)] [8, 28, 29, 30, 31, 32, 33, 34] (.seq .nil (.seq (.cond .nil .nil) (.seq (.blk (.seq .nil .nil)) .nil)))))) (.seq .nil .nil))))))) (args := [s0.v]) (Eq.mpr (by kernel_rfl : vcF Tryd.prog Tryd.f52 (.seq .nil (.seq .nil (.seq (.seq .nil (.blk (.lp [(3, .int .i64), (11, .int .i64)] [5, 12, 13, 14, 15, 16, 17, 18, 19, 20, 21, 22] (.seq .nil (.seq (.cond .nil .nil) (.seq (.blk (.seq .nil (.seq .nil (.seq .nil (.cond .nil .nil))))) .nil)))))) (.seq .nil (.seq (.seq .nil (.blk (.lp [(6, .sl), (27, .int .i64)] [8, 28, 29, 30, 31, 32, 33, 34] (.seq .nil (.seq (.cond .nil .nil) (.seq (.blk (.seq .nil .nil)) .nil)))))) (.seq .nil .nil)))))) [s0.v] W R = V_slices_Concat_int s0 W R) h)

/-- (*plait/valid.walker).open -/
def V_valid_walker_open (p0 : Option Addr) (x1 : Int) (s2_0 : Sl) (s2_1 : Sl) (W : World) (R : Ending → World → Prop) : Prop :=
  Na W #[s2_0.v, s2_1.v] 37 fun q5 W1 =>
  ∀ J : Bool → World → Prop, (∀ (b6 : Bool) W2, (
    Dw W2 fun W3 =>
    ∃ S : World → Prop, S W3 ∧
    ∃ q28 : Addr, p0 = some q28 ∧
    ∃ s30 : Sl, (∀ w, S w → w.cell? (q28.add 13) = some s30.v) ∧
    ∃ q33 : Addr, p0 = some q33 ∧
    ∃ s35 : Sl, (∀ w, S w → w.cell? (q33.add 12) = some s35.v) ∧
    ∃ s38 : Sl, (∀ w, S w → w.cell? (q5.add 0) = some s38.v) ∧
    ∃ s40 : Sl, (∀ w, S w → w.cell? (q5.add 1) = some s40.v) ∧
    Na W3 #[(.int .i64 x1), (.int .i64 (s35.len : Int)), s38.v, s40.v, (.bool false), (.bool b6)] 117 fun q43 W4 =>
    S W4 ∧
    RunV Tryd.prog (Builtin.append_ #[110, 110] 110 #[s30.v, (.slice (some q43) 1 1)]) W4 fun v W5 => ∃ s44 : Sl, v = s44.v ∧
    S W5 ∧
    ∃ q45 : Addr, p0 = some q45 ∧
    stC W5 (q45.add 13) [s44.v] 0 fun W6 =>
    R (.returned (.tuple #[])) W6) → J b6 W2) →
  ∃ q8 : Addr, p0 = some q8 ∧
  ∃ s10 : Sl, W1.cell? (q8.add 13) = some s10.v ∧
  Br (decide (((s10.len : Int) : Int) > 0))
    (CallV Tryd.prog 54 #[(.pointer p0)] W1 fun v W7 => ∃ p14 : Option Addr, v = (.pointer p14) ∧
    ∃ q15 : Addr, p14 = some q15 ∧
    ∃ b17 : Bool, W7.cell? (q15.add 5) = some (.bool b17) ∧
    (b17 = true →
      CallV Tryd.prog 54 #[(.pointer p0)] W7 fun v W8 => ∃ p20 : Option Addr, v = (.pointer p20) ∧
      ∃ q21 : Addr, p20 = some q21 ∧
    ∃ b23 : Bool, W8.cell? (q21.add 4) = some (.bool b23) ∧
    J (!b23) W8) ∧
    (b17 = !true →
      J false W7))
    (J true W1)
theorem of_valid_walker_open (p0 : Option Addr) (x1 : Int) (s2_0 : Sl) (s2_1 : Sl) (W : World) (R : Ending → World → Prop) (h : V_valid_walker_open p0 x1 s2_0 s2_1 W R) : Calls Tryd.prog 53 #[(.pointer p0), (.int .i64 x1), (.agg #[s2_0.v, s2_1.v])] W R :=
  calls_of_vcF Tryd.mix Tryd.func53 (an := (.seq .nil (.seq .nil (.jn [(6, .bool)] [7, 8, 9, 10, 11, 12, 13, 14, 15, 16, 17, 18, 19, 20, 21, 22, 23, 24, 25] (.seq .nil (.cond .nil .nil)) .nil)))) (args := [(.pointer p0), (.int .i64 x1), (.agg #[s2_0.v, s2_1.v])]) (Eq.mpr (by kernel_rfl : vcF Tryd.prog Tryd.f53 (.seq .nil (.seq .nil (.jn [(6, .bool)] [7, 8, 9, 10, 11, 12, 13, 14, 15, 16, 17, 18, 19, 20, 21, 22, 23, 24, 25] (.seq .nil (.cond .nil .nil)) .nil))) [(.pointer p0), (.int .i64 x1), (.agg #[s2_0.v, s2_1.v])] W R = V_valid_walker_open p0 x1 s2_0 s2_1 W R) h)

/-- (*plait/valid.walker).top -/
def V_valid_walker_top (p0 : Option Addr) (W : World) (R : Ending → World → Prop) : Prop :=
  Dw W fun W1 =>
  ∃ q4 : Addr, p0 = some q4 ∧
  ∃ s6 : Sl, W1.cell? (q4.add 13) = some s6.v ∧
  ∃ q8 : Addr, p0 = some q8 ∧
  ∃ s10 : Sl, W1.cell? (q8.add 13) = some s10.v ∧
  ∃ q13 : Addr, (s6.a = some q13 ∧ (0 : Int) ≤ (IntKind.wrap .i64 ((s10.len : Int) - 1)) ∧ (IntKind.wrap .i64 ((s10.len : Int) - 1)) < (s6.len : Int)) ∧
  R (.returned (.pointer (some (q13.add (((IntKind.wrap .i64 ((s10.len : Int) - 1)) : Int).toNat * 6))))) W1
theorem of_valid_walker_top (p0 : Option Addr) (W : World) (R : Ending → World → Prop) (h : V_valid_walker_top p0 W R) : Calls Tryd.prog 54 #[(.pointer p0)] W R :=
  calls_of_vcF Tryd.mix Tryd.func54 (an := (.seq .nil (.seq .nil .nil))) (args := [(.pointer p0)]) (Eq.mpr (by kernel_rfl : vcF Tryd.prog Tryd.f54 (.seq .nil (.seq .nil .nil)) [(.pointer p0)] W R = V_valid_walker_top p0 W R) h)

/-- (*plait/valid.walker).step -/
def V_valid_walker_step (p0 : Option Addr) (x1_0 : Int) (x1_1 : Int) (x1_2 : Int) (x1_3 : Int) (x1_4 : Int) (s1_5 : Sl) (W : World) (R : Ending → World → Prop) : Prop :=
  Na W #[(.int .i64 x1_0), (.int .i64 x1_1), (.int .i64 x1_2), (.int .u64 x1_3), (.int .u64 x1_4), s1_5.v] 40 fun q3 W1 =>
  ∃ x14 : Int, W1.cell? (q3.add 0) = some (.int .i64 x14) ∧
  CallV Tryd.prog 63 #[(.int .i64 x14)] W1 fun v W2 => ∃ x15_0_0 : Int, ∃ x15_0_1 : Int, ∃ b15_0_2 : Bool, ∃ s15_0_3 : Sl, ∃ s15_0_4 : Sl, ∃ b15_1 : Bool, v = (.tuple #[(.agg #[(.int .i64 x15_0_0), (.int .i64 x15_0_1), (.bool b15_0_2), s15_0_3.v, s15_0_4.v]), (.bool b15_1)]) ∧
  Na W2 #[(.int .i64 0), (.int .i64 0), (.bool false), (.slice none 0 0), (.slice none 0 0)] 131 fun q4 W3 =>
  stC W3 q4 [(.int .i64 x15_0_0), (.int .i64 x15_0_1), (.bool b15_0_2), s15_0_3.v, s15_0_4.v] 0 fun W4 =>
  ∃ b19 : Bool, W4.cell? (q4.add 2) = some (.bool b19) ∧
  Br b19
    (∃ x21_0 : Int, W4.cell? (q3.add 0) = some (.int .i64 x21_0) ∧
    ∃ x21_1 : Int, W4.cell? (q3.add 1) = some (.int .i64 x21_1) ∧
    ∃ x21_2 : Int, W4.cell? (q3.add 2) = some (.int .i64 x21_2) ∧
    ∃ x21_3 : Int, W4.cell? (q3.add 3) = some (.int .u64 x21_3) ∧
    ∃ x21_4 : Int, W4.cell? (q3.add 4) = some (.int .u64 x21_4) ∧
    ∃ s21_5 : Sl, W4.cell? (q3.add 5) = some s21_5.v ∧
    ∃ x22_0 : Int, W4.cell? (q4.add 0) = some (.int .i64 x22_0) ∧
    ∃ x22_1 : Int, W4.cell? (q4.add 1) = some (.int .i64 x22_1) ∧
    ∃ b22_2 : Bool, W4.cell? (q4.add 2) = some (.bool b22_2) ∧
    ∃ s22_3 : Sl, W4.cell? (q4.add 3) = some s22_3.v ∧
    ∃ s22_4 : Sl, W4.cell? (q4.add 4) = some s22_4.v ∧
    CallV Tryd.prog 64 #[(.pointer p0), (.agg #[(.int .i64 x21_0), (.int .i64 x21_1), (.int .i64 x21_2), (.int .u64 x21_3), (.int .u64 x21_4), s21_5.v]), (.agg #[(.int .i64 x22_0), (.int .i64 x22_1), (.bool b22_2), s22_3.v, s22_4.v])] W4 fun v W5 => v = (.tuple #[]) ∧
    ∃ s26 : Sl, W5.cell? (q4.add 3) = some s26.v ∧
    CallV Tryd.prog 65 #[(.pointer p0), s26.v] W5 fun v W6 => v = (.tuple #[]) ∧
    ∃ s30 : Sl, W6.cell? (q4.add 4) = some s30.v ∧
    CallV Tryd.prog 66 #[(.pointer p0), s30.v] W6 fun v W7 => v = (.tuple #[]) ∧
    R (.returned (.tuple #[])) W7)
    (∃ x33 : Int, W4.cell? (q3.add 0) = some (.int .i64 x33) ∧
    ∀ J : Bool → World → Prop, (∀ (b37 : Bool) W8, (
      Br b37
        (∀ J_1 : World → Prop, (∀ W9, (
          ∃ x48 : Int, W9.cell? (q3.add 1) = some (.int .i64 x48) ∧
          CallV Tryd.prog 68 #[(.pointer p0), (.int .i64 x48)] W9 fun v W10 => ∃ s49_0 : Sl, ∃ s49_1 : Sl, v = (.agg #[s49_0.v, s49_1.v]) ∧
          Na W10 #[(.slice none 0 0), (.slice none 0 0)] 37 fun q6 W11 =>
          stC W11 q6 [s49_0.v, s49_1.v] 0 fun W12 =>
          ∃ s52 : Sl, W12.cell? (q6.add 0) = some s52.v ∧
          CallV Tryd.prog 65 #[(.pointer p0), s52.v] W12 fun v W13 => v = (.tuple #[]) ∧
          ∃ x56 : Int, W13.cell? (q3.add 0) = some (.int .i64 x56) ∧
          ∃ s57_0 : Sl, W13.cell? (q6.add 0) = some s57_0.v ∧
          ∃ s57_1 : Sl, W13.cell? (q6.add 1) = some s57_1.v ∧
          CallV Tryd.prog 53 #[(.pointer p0), (.int .i64 x56), (.agg #[s57_0.v, s57_1.v])] W13 fun v W14 => v = (.tuple #[]) ∧
          ∃ s61 : Sl, W14.cell? (q6.add 0) = some s61.v ∧
          CallV Tryd.prog 66 #[(.pointer p0), s61.v] W14 fun v W15 => v = (.tuple #[]) ∧
          R (.returned (.tuple #[])) W15) → J_1 W9) →
        ∃ x42 : Int, W8.cell? (q3.add 0) = some (.int .i64 x42) ∧
        Br ((x42 : Int) == 4)
          (CallV Tryd.prog 67 #[(.pointer p0), (.int .i64 127)] W8 fun v W16 => ∃ x45 : Int, v = (.int .i64 x45) ∧
          J_1 W16)
          (J_1 W8))
        (∀ J_2 : Bool → World → Prop, (∀ (b63 : Bool) W17, (
          Br b63
            (∃ x68 : Int, W17.cell? (q3.add 0) = some (.int .i64 x68) ∧
            CallV Tryd.prog 69 #[(.pointer p0), (.int .i64 x68)] W17 fun v W18 => v = (.tuple #[]) ∧
            R (.returned (.tuple #[])) W18)
            (Br ((x33 : Int) == 26)
              (CallV Tryd.prog 67 #[(.pointer p0), (.int .i64 0)] W17 fun v W19 => ∃ x73 : Int, v = (.int .i64 x73) ∧
              R (.returned (.tuple #[])) W19)
              (Br ((x33 : Int) == 27)
                (CallV Tryd.prog 67 #[(.pointer p0), (.int .i64 127)] W17 fun v W20 => ∃ x77 : Int, v = (.int .i64 x77) ∧
                CallV Tryd.prog 67 #[(.pointer p0), (.int .i64 0)] W20 fun v W21 => ∃ x79 : Int, v = (.int .i64 x79) ∧
                CallV Tryd.prog 67 #[(.pointer p0), (.int .i64 x79)] W21 fun v W22 => ∃ x83 : Int, v = (.int .i64 x83) ∧
                Na W22 #[(.int .i64 x83)] 3 fun q84 W23 =>
                CallV Tryd.prog 66 #[(.pointer p0), (.slice (some q84) 1 1)] W23 fun v W24 => v = (.tuple #[]) ∧
                R (.returned (.tuple #[])) W24)
                (Br ((x33 : Int) == 16)
                  (∀ J_3 : Addr → Bool → World → Prop, (∀ (q8 : Addr) (b9 : Bool) W25, (
                    CallV Tryd.prog 70 #[(.pointer p0), (.bool b9)] W25 fun v W26 => v = (.tuple #[]) ∧
                    ∃ s103 : Sl, W26.cell? (q8.add 0) = some s103.v ∧
                    CallV Tryd.prog 65 #[(.pointer p0), s103.v] W26 fun v W27 => v = (.tuple #[]) ∧
                    ∃ s107 : Sl, W27.cell? (q8.add 1) = some s107.v ∧
                    CallV Tryd.prog 66 #[(.pointer p0), s107.v] W27 fun v W28 => v = (.tuple #[]) ∧
                    R (.returned (.tuple #[])) W28) → J_3 q8 b9 W25) →
                  Dw W17 fun W29 =>
                  ∃ S : World → Prop, S W29 ∧
                  ∃ q90 : Addr, p0 = some q90 ∧
                  ∃ s92_0 : Sl, (∀ w, S w → w.cell? ((q90.add 0).add 0) = some s92_0.v) ∧
                  ∃ s92_1 : Sl, (∀ w, S w → w.cell? ((q90.add 0).add 1) = some s92_1.v) ∧
                  ∃ s92_2 : Sl, (∀ w, S w → w.cell? ((q90.add 0).add 2) = some s92_2.v) ∧
                  ∃ s92_3 : Sl, (∀ w, S w → w.cell? ((q90.add 0).add 3) = some s92_3.v) ∧
                  ∃ s92_4 : Sl, (∀ w, S w → w.cell? ((q90.add 0).add 4) = some s92_4.v) ∧
                  ∃ s92_5 : Sl, (∀ w, S w → w.cell? ((q90.add 0).add 5) = some s92_5.v) ∧
                  ∃ s92_6 : Sl, (∀ w, S w → w.cell? ((q90.add 0).add 6) = some s92_6.v) ∧
                  ∃ x92_7 : Int, (∀ w, S w → w.cell? ((q90.add 0).add 7) = some (.int .i64 x92_7)) ∧
                  ∃ s92_8 : Sl, (∀ w, S w → w.cell? ((q90.add 0).add 8) = some s92_8.v) ∧
                  ∃ s92_9 : Sl, (∀ w, S w → w.cell? ((q90.add 0).add 9) = some s92_9.v) ∧
                  ∃ s92_10 : Sl, (∀ w, S w → w.cell? ((q90.add 0).add 10) = some s92_10.v) ∧
                  ∃ x94 : Int, (∀ w, S w → w.cell? (q3.add 1) = some (.int .i64 x94)) ∧
                  (CallV Tryd.prog 7 #[(.agg #[s92_0.v, s92_1.v, s92_2.v, s92_3.v, s92_4.v, s92_5.v, s92_6.v, (.int .i64 x92_7), s92_8.v, s92_9.v, s92_10.v]), (.int .i64 x94)] W29 fun v W30 => ∃ s95_0_0 : Sl, ∃ s95_0_1 : Sl, ∃ b95_1 : Bool, v = (.tuple #[(.agg #[s95_0_0.v, s95_0_1.v]), (.bool b95_1)]) ∧
                  Na W30 #[(.slice none 0 0), (.slice none 0 0)] 37 fun q8_1 W31 =>
                  S W31 ∧
                  stC W31 q8_1 [s95_0_0.v, s95_0_1.v] 0 fun W32 =>
                  J_3 q8_1 b95_1 W32) ∧
                  (Na W29 #[(.slice none 0 0), (.slice none 0 0)] 37 fun q8_2 W33 =>
                  S W33 ∧
                  CallV Tryd.prog 7 #[(.agg #[s92_0.v, s92_1.v, s92_2.v, s92_3.v, s92_4.v, s92_5.v, s92_6.v, (.int .i64 x92_7), s92_8.v, s92_9.v, s92_10.v]), (.int .i64 x94)] W33 fun v W34 => ∃ s95_0_0_1 : Sl, ∃ s95_0_1_1 : Sl, ∃ b95_1_1 : Bool, v = (.tuple #[(.agg #[s95_0_0_1.v, s95_0_1_1.v]), (.bool b95_1_1)]) ∧
                  stC W34 q8_2 [s95_0_0_1.v, s95_0_1_1.v] 0 fun W35 =>
                  J_3 q8_2 b95_1_1 W35))
                  (Br ((x33 : Int) == 17)
                    (∀ J_4 : Addr → Bool → World → Prop, (∀ (q10 : Addr) (b11 : Bool) W36, (
                      ∃ q125 : Addr, (b11 = true → p0 = some q125) ∧
                      ∃ s128 : Sl, (b11 = true → W36.cell? ((q125.add 0).add 3) = some s128.v) ∧
                      ∃ x134 : Int, ((b11 && (decide (((s128.len : Int) : Int) > 0))) = true → W36.cell? (q3.add 2) = some (.int .i64 x134)) ∧
                      CallV Tryd.prog 70 #[(.pointer p0), (.bool ((b11 && (decide (((s128.len : Int) : Int) > 0))) && ((x134 : Int) == 0)))] W36 fun v W37 => v = (.tuple #[]) ∧
                      CallV Tryd.prog 67 #[(.pointer p0), (.int .i64 127)] W37 fun v W38 => ∃ x139 : Int, v = (.int .i64 x139) ∧
                      ∃ s142 : Sl, W38.cell? (q10.add 0) = some s142.v ∧
                      CallV Tryd.prog 65 #[(.pointer p0), s142.v] W38 fun v W39 => v = (.tuple #[]) ∧
                      ∃ s146 : Sl, W39.cell? (q10.add 1) = some s146.v ∧
                      CallV Tryd.prog 66 #[(.pointer p0), s146.v] W39 fun v W40 => v = (.tuple #[]) ∧
                      R (.returned (.tuple #[])) W40) → J_4 q10 b11 W36) →
                    Dw W17 fun W41 =>
                    ∃ S_1 : World → Prop, S_1 W41 ∧
                    ∃ q113 : Addr, p0 = some q113 ∧
                    ∃ s115_0 : Sl, (∀ w, S_1 w → w.cell? ((q113.add 0).add 0) = some s115_0.v) ∧
                    ∃ s115_1 : Sl, (∀ w, S_1 w → w.cell? ((q113.add 0).add 1) = some s115_1.v) ∧
                    ∃ s115_2 : Sl, (∀ w, S_1 w → w.cell? ((q113.add 0).add 2) = some s115_2.v) ∧
                    ∃ s115_3 : Sl, (∀ w, S_1 w → w.cell? ((q113.add 0).add 3) = some s115_3.v) ∧
                    ∃ s115_4 : Sl, (∀ w, S_1 w → w.cell? ((q113.add 0).add 4) = some s115_4.v) ∧
                    ∃ s115_5 : Sl, (∀ w, S_1 w → w.cell? ((q113.add 0).add 5) = some s115_5.v) ∧
                    ∃ s115_6 : Sl, (∀ w, S_1 w → w.cell? ((q113.add 0).add 6) = some s115_6.v) ∧
                    ∃ x115_7 : Int, (∀ w, S_1 w → w.cell? ((q113.add 0).add 7) = some (.int .i64 x115_7)) ∧
                    ∃ s115_8 : Sl, (∀ w, S_1 w → w.cell? ((q113.add 0).add 8) = some s115_8.v) ∧
                    ∃ s115_9 : Sl, (∀ w, S_1 w → w.cell? ((q113.add 0).add 9) = some s115_9.v) ∧
                    ∃ s115_10 : Sl, (∀ w, S_1 w → w.cell? ((q113.add 0).add 10) = some s115_10.v) ∧
                    ∃ x117 : Int, (∀ w, S_1 w → w.cell? (q3.add 1) = some (.int .i64 x117)) ∧
                    (CallV Tryd.prog 16 #[(.agg #[s115_0.v, s115_1.v, s115_2.v, s115_3.v, s115_4.v, s115_5.v, s115_6.v, (.int .i64 x115_7), s115_8.v, s115_9.v, s115_10.v]), (.int .i64 x117)] W41 fun v W42 => ∃ s118_0_0 : Sl, ∃ s118_0_1 : Sl, ∃ b118_1 : Bool, v = (.tuple #[(.agg #[s118_0_0.v, s118_0_1.v]), (.bool b118_1)]) ∧
                    Na W42 #[(.slice none 0 0), (.slice none 0 0)] 37 fun q10_1 W43 =>
                    S_1 W43 ∧
                    stC W43 q10_1 [s118_0_0.v, s118_0_1.v] 0 fun W44 =>
                    J_4 q10_1 b118_1 W44) ∧
                    (Na W41 #[(.slice none 0 0), (.slice none 0 0)] 37 fun q10_2 W45 =>
                    S_1 W45 ∧
                    CallV Tryd.prog 16 #[(.agg #[s115_0.v, s115_1.v, s115_2.v, s115_3.v, s115_4.v, s115_5.v, s115_6.v, (.int .i64 x115_7), s115_8.v, s115_9.v, s115_10.v]), (.int .i64 x117)] W45 fun v W46 => ∃ s118_0_0_1 : Sl, ∃ s118_0_1_1 : Sl, ∃ b118_1_1 : Bool, v = (.tuple #[(.agg #[s118_0_0_1.v, s118_0_1_1.v]), (.bool b118_1_1)]) ∧
                    stC W46 q10_2 [s118_0_0_1.v, s118_0_1_1.v] 0 fun W47 =>
                    J_4 q10_2 b118_1_1 W47))
                    (∃ x35_0 : Int, W17.cell? (q3.add 0) = some (.int .i64 x35_0) ∧
                    ∃ x35_1 : Int, W17.cell? (q3.add 1) = some (.int .i64 x35_1) ∧
                    ∃ x35_2 : Int, W17.cell? (q3.add 2) = some (.int .i64 x35_2) ∧
                    ∃ x35_3 : Int, W17.cell? (q3.add 3) = some (.int .u64 x35_3) ∧
                    ∃ x35_4 : Int, W17.cell? (q3.add 4) = some (.int .u64 x35_4) ∧
                    ∃ s35_5 : Sl, W17.cell? (q3.add 5) = some s35_5.v ∧
                    CallV Tryd.prog 71 #[(.pointer p0), (.agg #[(.int .i64 x35_0), (.int .i64 x35_1), (.int .i64 x35_2), (.int .u64 x35_3), (.int .u64 x35_4), s35_5.v])] W17 fun v W48 => v = (.tuple #[]) ∧
                    R (.returned (.tuple #[])) W48)))))) → J_2 b63 W17) →
        Br ((x33 : Int) == 5)
          (J_2 ((x33 : Int) == 5) W8)
          (J_2 ((x33 : Int) == 11) W8))) → J b37 W8) →
    Br ((x33 : Int) == 2)
      (J ((x33 : Int) == 2) W4)
      (Br ((x33 : Int) == 3)
        (J ((x33 : Int) == 3) W4)
        (J ((x33 : Int) == 4) W4)))
theorem of_valid_walker_step (p0 : Option Addr) (x1_0 : Int) (x1_1 : Int) (x1_2 : Int) (x1_3 : Int) (x1_4 : Int) (s1_5 : Sl) (W : World) (R : Ending → World → Prop) (h : V_valid_walker_step p0 x1_0 x1_1 x1_2 x1_3 x1_4 s1_5 W R) : Calls Tryd.prog 55 #[(.pointer p0), (.agg #[(.int .i64 x1_0), (.int .i64 x1_1), (.int .i64 x1_2), (.int .u64 x1_3), (.int .u64 x1_4), s1_5.v])] W R :=
  calls_of_vcF Tryd.mix Tryd.func55 (an := (.seq .nil (.seq .nil (.seq (.seq .nil (.cond (.seq .nil (.seq .nil (.seq .nil .nil))) .nil)) (.seq .nil (.blk (.jn [(37, .bool)] [38, 39, 40] (.seq .nil (.cond .nil (.seq .nil (.cond .nil .nil)))) (.cond (.jn [] [41, 42, 43, 44, 45] (.seq .nil (.cond .nil .nil)) (.seq .nil (.seq .nil (.seq .nil .nil)))) (.jn [(63, .bool)] [64, 65] (.seq .nil (.cond .nil .nil)) (.cond .nil (.seq .nil (.cond .nil (.seq .nil (.cond (.seq .nil (.seq .nil .nil)) (.seq .nil (.cond (.jn [(8, .adr), (9, .bool)] [88, 89, 90, 91, 92, 93, 94, 95, 96, 97] .nil (.seq .nil (.seq .nil .nil))) (.seq .nil (.cond (.jn [(10, .adr), (11, .bool)] [111, 112, 113, 114, 115, 116, 117, 118, 119, 120] .nil (.seq .nil (.seq .nil (.seq .nil .nil)))) .nil)))))))))))))))))) (args := [(.pointer p0), (.agg #[(.int .i64 x1_0), (.int .i64 x1_1), (.int .i64 x1_2), (.int .u64 x1_3), (.int .u64 x1_4), s1_5.v])]) (Eq.mpr (by kernel_rfl : vcF Tryd.prog Tryd.f55 (.seq .nil (.seq .nil (.seq (.seq .nil (.cond (.seq .nil (.seq .nil (.seq .nil .nil))) .nil)) (.seq .nil (.blk (.jn [(37, .bool)] [38, 39, 40] (.seq .nil (.cond .nil (.seq .nil (.cond .nil .nil)))) (.cond (.jn [] [41, 42, 43, 44, 45] (.seq .nil (.cond .nil .nil)) (.seq .nil (.seq .nil (.seq .nil .nil)))) (.jn [(63, .bool)] [64, 65] (.seq .nil (.cond .nil .nil)) (.cond .nil (.seq .nil (.cond .nil (.seq .nil (.cond (.seq .nil (.seq .nil .nil)) (.seq .nil (.cond (.jn [(8, .adr), (9, .bool)] [88, 89, 90, 91, 92, 93, 94, 95, 96, 97] .nil (.seq .nil (.seq .nil .nil))) (.seq .nil (.cond (.jn [(10, .adr), (11, .bool)] [111, 112, 113, 114, 115, 116, 117, 118, 119, 120] .nil (.seq .nil (.seq .nil (.seq .nil .nil)))) .nil))))))))))))))))) [(.pointer p0), (.agg #[(.int .i64 x1_0), (.int .i64 x1_1), (.int .i64 x1_2), (.int .u64 x1_3), (.int .u64 x1_4), s1_5.v])] W R = V_valid_walker_step p0 x1_0 x1_1 x1_2 x1_3 x1_4 s1_5 W R) h)

/-- slices.Clone[[]int,int] -/
def V_slices_Clone_int (s0 : Sl) (W : World) (R : Ending → World → Prop) : Prop :=
  Br s0.a.isNone
    (R (.returned (.slice none 0 0)) W)
    (Na W #[] 3 fun q5 W1 =>
    RunV Tryd.prog (Builtin.append_ #[24, 24] 24 #[(.slice (some q5) 0 0), s0.v]) W1 fun v W2 => ∃ s7 : Sl, v = s7.v ∧
    R (.returned s7.v) W2)
theorem of_slices_Clone_int (s0 : Sl) (W : World) (R : Ending → World → Prop) (h : V_slices_Clone_int s0 W R) : Calls Tryd.prog 56 #[s0.v] W R :=
  calls_of_vcF Tryd.mix Tryd.func56 (an := (.seq .nil (.seq (.seq .nil (.cond (.seq .nil .nil) .nil)) (.seq .nil .nil)))) (args := [s0.v]) (Eq.mpr (by kernel_rfl : vcF Tryd.prog Tryd.f56 (.seq .nil (.seq (.seq .nil (.cond (.seq .nil .nil) .nil)) (.seq .nil .nil))) [s0.v] W R = V_slices_Clone_int s0 W R) h)

/-- plait/plaitref12.SameInstr -/
def V_plaitref12_SameInstr (x0_0 : Int) (x0_1 : Int) (x0_2 : Int) (x0_3 : Int) (x0_4 : Int) (s0_5 : Sl) (x1_0 : Int) (x1_1 : Int) (x1_2 : Int) (x1_3 : Int) (x1_4 : Int) (s1_5 : Sl) (W : World) (R : Ending → World → Prop) : Prop :=
  Na W #[(.int .i64 x0_0), (.int .i64 x0_1), (.int .i64 x0_2), (.int .u64 x0_3), (.int .u64 x0_4), s0_5.v] 40 fun q2 W1 =>
  Na W1 #[(.int .i64 x1_0), (.int .i64 x1_1), (.int .i64 x1_2), (.int .u64 x1_3), (.int .u64 x1_4), s1_5.v] 40 fun q3 W2 =>
  ∃ x7 : Int, W2.cell? (q2.add 0) = some (.int .i64 x7) ∧
  ∃ x9 : Int, W2.cell? (q3.add 0) = some (.int .i64 x9) ∧
  ∃ x13 : Int, (((x7 : Int) != x9) = false → W2.cell? (q2.add 1) = some (.int .i64 x13)) ∧
  ∃ x15 : Int, (((x7 : Int) != x9) = false → W2.cell? (q3.add 1) = some (.int .i64 x15)) ∧
  ∃ x20 : Int, ((((x7 : Int) != x9) || ((x13 : Int) != x15)) = false → W2.cell? (q2.add 2) = some (.int .i64 x20)) ∧
  ∃ x22 : Int, ((((x7 : Int) != x9) || ((x13 : Int) != x15)) = false → W2.cell? (q3.add 2) = some (.int .i64 x22)) ∧
  ∃ x27 : Int, (((((x7 : Int) != x9) || ((x13 : Int) != x15)) || ((x20 : Int) != x22)) = false → W2.cell? (q2.add 3) = some (.int .u64 x27)) ∧
  ∃ x29 : Int, (((((x7 : Int) != x9) || ((x13 : Int) != x15)) || ((x20 : Int) != x22)) = false → W2.cell? (q3.add 3) = some (.int .u64 x29)) ∧
  ∃ x34 : Int, ((((((x7 : Int) != x9) || ((x13 : Int) != x15)) || ((x20 : Int) != x22)) || ((x27 : Int) != x29)) = false → W2.cell? (q2.add 4) = some (.int .u64 x34)) ∧
  ∃ x36 : Int, ((((((x7 : Int) != x9) || ((x13 : Int) != x15)) || ((x20 : Int) != x22)) || ((x27 : Int) != x29)) = false → W2.cell? (q3.add 4) = some (.int .u64 x36)) ∧
  ∃ s41 : Sl, (((((((x7 : Int) != x9) || ((x13 : Int) != x15)) || ((x20 : Int) != x22)) || ((x27 : Int) != x29)) || ((x34 : Int) != x36)) = false → W2.cell? (q2.add 5) = some s41.v) ∧
  ∃ s44 : Sl, (((((((x7 : Int) != x9) || ((x13 : Int) != x15)) || ((x20 : Int) != x22)) || ((x27 : Int) != x29)) || ((x34 : Int) != x36)) = false → W2.cell? (q3.add 5) = some s44.v) ∧
  Br (((((((x7 : Int) != x9) || ((x13 : Int) != x15)) || ((x20 : Int) != x22)) || ((x27 : Int) != x29)) || ((x34 : Int) != x36)) || (((s41.len : Int) : Int) != (s44.len : Int)))
    (R (.returned (.bool false)) W2)
    (∀ L : Int → World → Prop, (∀ (x5 : Int) W3, (
      ∃ s50 : Sl, W3.cell? (q2.add 5) = some s50.v ∧
      Br (decide ((x5 : Int) < (s50.len : Int)))
        (Dw W3 fun W4 =>
        ∃ s56 : Sl, W4.cell? (q2.add 5) = some s56.v ∧
        ∃ q58 : Addr, (s56.a = some q58 ∧ (0 : Int) ≤ x5 ∧ x5 < (s56.len : Int)) ∧
        ∃ x59 : Int, W4.cell? (q58.add ((x5 : Int).toNat * 1)) = some (.int .i64 x59) ∧
        ∃ s61 : Sl, W4.cell? (q3.add 5) = some s61.v ∧
        ∃ q63 : Addr, (s61.a = some q63 ∧ (0 : Int) ≤ x5 ∧ x5 < (s61.len : Int)) ∧
        ∃ x64 : Int, W4.cell? (q63.add ((x5 : Int).toNat * 1)) = some (.int .i64 x64) ∧
        Br ((x59 : Int) != x64)
          (R (.returned (.bool false)) W4)
          (L (IntKind.wrap .i64 (x5 + 1)) W4))
        (R (.returned (.bool true)) W3)) → L x5 W3) →
    L 0 W2)
theorem of_plaitref12_SameInstr (x0_0 : Int) (x0_1 : Int) (x0_2 : Int) (x0_3 : Int) (x0_4 : Int) (s0_5 : Sl) (x1_0 : Int) (x1_1 : Int) (x1_2 : Int) (x1_3 : Int) (x1_4 : Int) (s1_5 : Sl) (W : World) (R : Ending → World → Prop) (h : V_plaitref12_SameInstr x0_0 x0_1 x0_2 x0_3 x0_4 s0_5 x1_0 x1_1 x1_2 x1_3 x1_4 s1_5 W R) : Calls Tryd.prog 57 #[(.agg #[(.int .i64 x0_0), (.int .i64 x0_1), (.int .i64 x0_2), (.int .u64 x0_3), (.int .u64 x0_4), s0_5.v]), (.agg #[(.int .i64 x1_0), (.int .i64 x1_1), (.int .i64 x1_2), (.int .u64 x1_3), (.int .u64 x1_4), s1_5.v])] W R :=
  calls_of_vcF Tryd.mix Tryd.func57 (an := (.seq .nil (.seq (.seq .nil (.cond (.seq .nil .nil) .nil)) (.seq (.seq .nil (.blk (.lp [(5, .int .i64)] [4, 48, 49, 50, 51, 52, 53, 54, 55, 56, 57, 58, 59, 60, 61, 62, 63, 64, 65] (.seq (.seq .nil (.cond .nil .nil)) (.seq (.blk (.seq .nil (.cond (.seq .nil .nil) .nil))) .nil))))) (.seq .nil .nil))))) (args := [(.agg #[(.int .i64 x0_0), (.int .i64 x0_1), (.int .i64 x0_2), (.int .u64 x0_3), (.int .u64 x0_4), s0_5.v]), (.agg #[(.int .i64 x1_0), (.int .i64 x1_1), (.int .i64 x1_2), (.int .u64 x1_3), (.int .u64 x1_4), s1_5.v])]) (Eq.mpr (by kernel_rfl : vcF Tryd.prog Tryd.f57 (.seq .nil (.seq (.seq .nil (.cond (.seq .nil .nil) .nil)) (.seq (.seq .nil (.blk (.lp [(5, .int .i64)] [4, 48, 49, 50, 51, 52, 53, 54, 55, 56, 57, 58, 59, 60, 61, 62, 63, 64, 65] (.seq (.seq .nil (.cond .nil .nil)) (.seq (.blk (.seq .nil (.cond (.seq .nil .nil) .nil))) .nil))))) (.seq .nil .nil)))) [(.agg #[(.int .i64 x0_0), (.int .i64 x0_1), (.int .i64 x0_2), (.int .u64 x0_3), (.int .u64 x0_4), s0_5.v]), (.agg #[(.int .i64 x1_0), (.int .i64 x1_1), (.int .i64 x1_2), (.int .u64 x1_3), (.int .u64 x1_4), s1_5.v])] W R = V_plaitref12_SameInstr x0_0 x0_1 x0_2 x0_3 x0_4 s0_5 x1_0 x1_1 x1_2 x1_3 x1_4 s1_5 W R) h)

/-- plait/leb.PutU -/
def V_leb_PutU (s0 : Sl) (W : World) (R : Ending → World → Prop) : Prop :=
  ∀ L : Sl → Int → World → Prop, (∀ (s3 : Sl) (x8 : Int) W1, (
    Br (decide ((x8 : Int) < (s0.len : Int)))
      (∃ q10 : Addr, (s0.a = some q10 ∧ (0 : Int) ≤ x8 ∧ x8 < (s0.len : Int)) ∧
      ∃ x11 : Int, W1.cell? (q10.add ((x8 : Int).toNat * 1)) = some (.int .u64 x11) ∧
      ∀ L_1 : Sl → Int → World → Prop, (∀ (s3_1 : Sl) (x5 : Int) W2, (
        Br (decide ((x5 : Int) ≥ 128))
          (Na W2 #[(.int .u8 (IntKind.wrap .u8 (BitVec.ofInt (IntKind.bits .u8) (IntKind.wrap .u8 x5) ||| BitVec.ofInt (IntKind.bits .u8) 128).toNat))] 5 fun q18 W3 =>
          RunV Tryd.prog (Builtin.append_ #[59, 59] 59 #[s3_1.v, (.slice (some q18) 1 1)]) W3 fun v W4 => ∃ s19 : Sl, v = s19.v ∧
          (0 : Int) ≤ 7 ∧
          L_1 s19 (Int.fdiv x5 (2 ^ (min (7 : Int).toNat (IntKind.bits .u64)))) W4)
          (Na W2 #[(.int .u8 (IntKind.wrap .u8 x5))] 5 fun q25 W5 =>
          RunV Tryd.prog (Builtin.append_ #[59, 59] 59 #[s3_1.v, (.slice (some q25) 1 1)]) W5 fun v W6 => ∃ s26 : Sl, v = s26.v ∧
          L s26 (IntKind.wrap .i64 (x8 + 1)) W6)) → L_1 s3_1 x5 W2) →
      L_1 s3 x11 W1)
      (R (.returned s3.v) W1)) → L s3 x8 W1) →
  L ⟨none, 0, 0⟩ 0 W
theorem of_leb_PutU (s0 : Sl) (W : World) (R : Ending → World → Prop) (h : V_leb_PutU s0 W R) : Calls Tryd.prog 58 #[s0.v] W R :=
  calls_of_vcF Tryd.mix Tryd.func58 (an := (.seq .nil (.seq .nil (.seq (.seq .nil (.blk (.lp [(3, .sl), (8, .int .i64)] [5, 9, 10, 11, 12, 13, 14, 15, 16, 17, 18, 19, 20, 21, 22, 23, 24, 25, 26, 27] (.seq .nil (.seq (.cond .nil .nil) (.seq (.blk (.seq .nil (.seq (.blk (.lp [(3, .sl), (5, .int .u64)] [12, 13, 14, 15, 16, 17, 18, 19, 20, 21] (.seq (.seq .nil (.cond .nil .nil)) (.blk (.seq .nil .nil))))) .nil))) .nil)))))) (.seq .nil .nil))))) (args := [s0.v]) (Eq.mpr (by kernel_rfl : vcF Tryd.prog Tryd.f58 (.seq .nil (.seq .nil (.seq (.seq .nil (.blk (.lp [(3, .sl), (8, .int .i64)] [5, 9, 10, 11, 12, 13, 14, 15, 16, 17, 18, 19, 20, 21, 22, 23, 24, 25, 26, 27] (.seq .nil (.seq (.cond .nil .nil) (.seq (.blk (.seq .nil (.seq (.blk (.lp [(3, .sl), (5, .int .u64)] [12, 13, 14, 15, 16, 17, 18, 19, 20, 21] (.seq (.seq .nil (.cond .nil .nil)) (.blk (.seq .nil .nil))))) .nil))) .nil)))))) (.seq .nil .nil)))) [s0.v] W R = V_leb_PutU s0 W R) h)

/-- plait/expr.Write -/
def V_expr_Write (s0 : Sl) (W : World) (R : Ending → World → Prop) : Prop :=
  CallV Tryd.prog 73 #[s0.v] W fun v W1 => ∃ b10 : Bool, v = (.bool b10) ∧
  Br (!b10)
    (R (.returned (.tuple #[(.slice none 0 0), (.int .i64 1)])) W1)
    (∀ L : Sl → Int → World → Prop, (∀ (s4 : Sl) (x14 : Int) W2, (
      Br (decide ((x14 : Int) < (s0.len : Int)))
        (∃ q16 : Addr, (s0.a = some q16 ∧ (0 : Int) ≤ x14 ∧ x14 < (s0.len : Int)) ∧
        ∃ x17_0 : Int, W2.cell? ((q16.add ((x14 : Int).toNat * 6)).add 0) = some (.int .i64 x17_0) ∧
        ∃ x17_1 : Int, W2.cell? ((q16.add ((x14 : Int).toNat * 6)).add 1) = some (.int .i64 x17_1) ∧
        ∃ x17_2 : Int, W2.cell? ((q16.add ((x14 : Int).toNat * 6)).add 2) = some (.int .i64 x17_2) ∧
        ∃ x17_3 : Int, W2.cell? ((q16.add ((x14 : Int).toNat * 6)).add 3) = some (.int .u64 x17_3) ∧
        ∃ x17_4 : Int, W2.cell? ((q16.add ((x14 : Int).toNat * 6)).add 4) = some (.int .u64 x17_4) ∧
        ∃ s17_5 : Sl, W2.cell? ((q16.add ((x14 : Int).toNat * 6)).add 5) = some s17_5.v ∧
        Na W2 #[(.int .i64 0), (.int .i64 0), (.int .i64 0), (.int .u64 0), (.int .u64 0), (.slice none 0 0)] 40 fun q6 W3 =>
        stC W3 q6 [(.int .i64 x17_0), (.int .i64 x17_1), (.int .i64 x17_2), (.int .u64 x17_3), (.int .u64 x17_4), s17_5.v] 0 fun W4 =>
        ∃ x19_0 : Int, W4.cell? (q6.add 0) = some (.int .i64 x19_0) ∧
        ∃ x19_1 : Int, W4.cell? (q6.add 1) = some (.int .i64 x19_1) ∧
        ∃ x19_2 : Int, W4.cell? (q6.add 2) = some (.int .i64 x19_2) ∧
        ∃ x19_3 : Int, W4.cell? (q6.add 3) = some (.int .u64 x19_3) ∧
        ∃ x19_4 : Int, W4.cell? (q6.add 4) = some (.int .u64 x19_4) ∧
        ∃ s19_5 : Sl, W4.cell? (q6.add 5) = some s19_5.v ∧
        CallV Tryd.prog 74 #[(.agg #[(.int .i64 x19_0), (.int .i64 x19_1), (.int .i64 x19_2), (.int .u64 x19_3), (.int .u64 x19_4), s19_5.v])] W4 fun v W5 => ∃ s20_0 : Sl, ∃ b20_1 : Bool, v = (.tuple #[s20_0.v, (.bool b20_1)]) ∧
        Br (!b20_1)
          (R (.returned (.tuple #[(.slice none 0 0), (.int .i64 1)])) W5)
          (RunV Tryd.prog (Builtin.append_ #[59, 59] 59 #[s4.v, s20_0.v]) W5 fun v W6 => ∃ s27 : Sl, v = s27.v ∧
          L s27 (IntKind.wrap .i64 (x14 + 1)) W6))
        (R (.returned (.tuple #[s4.v, (.int .i64 0)])) W2)) → L s4 x14 W2) →
    L ⟨none, 0, 0⟩ 0 W1)
theorem of_expr_Write (s0 : Sl) (W : World) (R : Ending → World → Prop) (h : V_expr_Write s0 W R) : Calls Tryd.prog 60 #[s0.v] W R :=
  calls_of_vcF Tryd.mix Tryd.func60 (an := (.seq .nil (.seq (.seq .nil (.cond (.seq .nil .nil) .nil)) (.seq .nil (.seq (.seq .nil (.blk (.lp [(4, .sl), (14, .int .i64)] [2, 3, 6, 7, 8, 15, 16, 17, 18, 19, 20, 21, 22, 23, 24, 25, 26, 27, 28] (.seq .nil (.seq (.cond .nil .nil) (.seq (.blk (.seq .nil (.seq .nil (.seq (.seq .nil (.cond (.seq .nil .nil) .nil)) .nil)))) .nil)))))) (.seq .nil .nil)))))) (args := [s0.v]) (Eq.mpr (by kernel_rfl : vcF Tryd.prog Tryd.f60 (.seq .nil (.seq (.seq .nil (.cond (.seq .nil .nil) .nil)) (.seq .nil (.seq (.seq .nil (.blk (.lp [(4, .sl), (14, .int .i64)] [2, 3, 6, 7, 8, 15, 16, 17, 18, 19, 20, 21, 22, 23, 24, 25, 26, 27, 28] (.seq .nil (.seq (.cond .nil .nil) (.seq (.blk (.seq .nil (.seq .nil (.seq (.seq .nil (.cond (.seq .nil .nil) .nil)) .nil)))) .nil)))))) (.seq .nil .nil))))) [s0.v] W R = V_expr_Write s0 W R) h)

/-- slices.Grow[[]plait/api.Limits,plait/api.Limits] -/
def V_slices_Grow_Limits (s0 : Sl) (x1 : Int) (W : World) (R : Ending → World → Prop) : Prop :=
  ∀ J : World → Prop, (∀ W1, (
    RunV Tryd.prog (Builtin.cap_ #[25] 3 #[s0.v]) W1 fun v W2 => ∃ x10 : Int, v = (.int .i64 x10) ∧
    Br (decide (((IntKind.wrap .i64 (x1 - (IntKind.wrap .i64 (x10 - (s0.len : Int))))) : Int) > 0))
      (RunV Tryd.prog (Builtin.cap_ #[25] 3 #[s0.v]) W2 fun v W3 => ∃ x19 : Int, v = (.int .i64 x19) ∧
      ((0 : Int) ≤ x19 ∧ x19 ≤ (s0.cap : Int)) ∧
      RunV Tryd.prog (Builtin.append_ #[25, 3] 25 #[(.slice (if s0.cap = 0 then s0.a else Option.map (fun a : Addr => a.add (0 * 2)) s0.a) ((x19 : Int).toNat - 0) (s0.cap - 0)), (.int .i64 (IntKind.wrap .i64 (x1 - (IntKind.wrap .i64 (x10 - (s0.len : Int))))))]) W3 fun v W4 => ∃ s22 : Sl, v = s22.v ∧
      ((0 : Int) ≤ (s0.len : Int) ∧ (s0.len : Int) ≤ (s22.cap : Int)) ∧
      R (.returned (.slice (if s22.cap = 0 then s22.a else Option.map (fun a : Addr => a.add (0 * 2)) s22.a) (((s0.len : Int) : Int).toNat - 0) (s22.cap - 0))) W4)
      (R (.returned s0.v) W2)) → J W1) →
  Br (decide ((x1 : Int) < 0))
    (RunV Tryd.prog (Instr.makeInterface 9 (.string ({ data := #[99, 97, 110, 110, 111, 116, 32, 98, 101, 32, 110, 101, 103, 97, 116, 105, 118, 101] } : ByteArray))) W fun v W5 => ∃ v7 : Value, v = v7 ∧
    False)
    (J W)
theorem of_slices_Grow_Limits (s0 : Sl) (x1 : Int) (W : World) (R : Ending → World → Prop) (h : V_slices_Grow_Limits s0 x1 W R) : Calls Tryd.prog 61 #[s0.v, (.int .i64 x1)] W R :=
  calls_of_vcF Tryd.mix Tryd.func61 (an := (.seq .nil (.jn [] [5, 6, 7] (.seq .nil (.cond .nil .nil)) (.seq (.seq .nil (.seq .nil (.cond .nil .nil))) (.seq .nil .nil))))) (args := [s0.v, (.int .i64 x1)]) (Eq.mpr (by kernel_rfl : vcF Tryd.prog Tryd.f61 (.seq .nil (.jn [] [5, 6, 7] (.seq .nil (.cond .nil .nil)) (.seq (.seq .nil (.seq .nil (.cond .nil .nil))) (.seq .nil .nil)))) [s0.v, (.int .i64 x1)] W R = V_slices_Grow_Limits s0 x1 W R) h)

/-- slices.Grow[[]int,int] -/
def V_slices_Grow_int (s0 : Sl) (x1 : Int) (W : World) (R : Ending → World → Prop) : Prop :=
  ∀ J : World → Prop, (∀ W1, (
    RunV Tryd.prog (Builtin.cap_ #[24] 3 #[s0.v]) W1 fun v W2 => ∃ x10 : Int, v = (.int .i64 x10) ∧
    Br (decide (((IntKind.wrap .i64 (x1 - (IntKind.wrap .i64 (x10 - (s0.len : Int))))) : Int) > 0))
      (RunV Tryd.prog (Builtin.cap_ #[24] 3 #[s0.v]) W2 fun v W3 => ∃ x19 : Int, v = (.int .i64 x19) ∧
      ((0 : Int) ≤ x19 ∧ x19 ≤ (s0.cap : Int)) ∧
      RunV Tryd.prog (Builtin.append_ #[24, 3] 24 #[(.slice (if s0.cap = 0 then s0.a else Option.map (fun a : Addr => a.add (0 * 1)) s0.a) ((x19 : Int).toNat - 0) (s0.cap - 0)), (.int .i64 (IntKind.wrap .i64 (x1 - (IntKind.wrap .i64 (x10 - (s0.len : Int))))))]) W3 fun v W4 => ∃ s22 : Sl, v = s22.v ∧
      ((0 : Int) ≤ (s0.len : Int) ∧ (s0.len : Int) ≤ (s22.cap : Int)) ∧
      R (.returned (.slice (if s22.cap = 0 then s22.a else Option.map (fun a : Addr => a.add (0 * 1)) s22.a) (((s0.len : Int) : Int).toNat - 0) (s22.cap - 0))) W4)
      (R (.returned s0.v) W2)) → J W1) →
  Br (decide ((x1 : Int) < 0))
    (RunV Tryd.prog (Instr.makeInterface 9 (.string ({ data := #[99, 97, 110, 110, 111, 116, 32, 98, 101, 32, 110, 101, 103, 97, 116, 105, 118, 101] } : ByteArray))) W fun v W5 => ∃ v7 : Value, v = v7 ∧
    False)
    (J W)
theorem of_slices_Grow_int (s0 : Sl) (x1 : Int) (W : World) (R : Ending → World → Prop) (h : V_slices_Grow_int s0 x1 W R) : Calls Tryd.prog 62 #[s0.v, (.int .i64 x1)] W R :=
  calls_of_vcF Tryd.mix Tryd.func62 (an := (.seq .nil (.jn [] [5, 6, 7] (.seq .nil (.cond .nil .nil)) (.seq (.seq .nil (.seq .nil (.cond .nil .nil))) (.seq .nil .nil))))) (args := [s0.v, (.int .i64 x1)]) (Eq.mpr (by kernel_rfl : vcF Tryd.prog Tryd.f62 (.seq .nil (.jn [] [5, 6, 7] (.seq .nil (.cond .nil .nil)) (.seq (.seq .nil (.seq .nil (.cond .nil .nil))) (.seq .nil .nil)))) [s0.v, (.int .i64 x1)] W R = V_slices_Grow_int s0 x1 W R) h)

/-- plait/instr.Of -/
def V_instr_Of (x0 : Int) (W : World) (R : Ending → World → Prop) : Prop :=
  Na W #[(.int .i64 0), (.int .i64 0), (.bool false), (.slice none 0 0), (.slice none 0 0)] 131 fun q2 W1 =>
  CallV Tryd.prog 75 #[] W1 fun v W2 => ∃ s12 : Sl, v = s12.v ∧
  ∀ J : Sl → World → Prop, (∀ (s4 : Sl) W3, (
    ∀ L : Int → World → Prop, (∀ (x18 : Int) W4, (
      Br (decide ((x18 : Int) < (s4.len : Int)))
        (∃ q20 : Addr, (s4.a = some q20 ∧ (0 : Int) ≤ x18 ∧ x18 < (s4.len : Int)) ∧
        ∃ x21_0 : Int, W4.cell? ((q20.add ((x18 : Int).toNat * 5)).add 0) = some (.int .i64 x21_0) ∧
        ∃ x21_1 : Int, W4.cell? ((q20.add ((x18 : Int).toNat * 5)).add 1) = some (.int .i64 x21_1) ∧
        ∃ x21_2 : Int, W4.cell? ((q20.add ((x18 : Int).toNat * 5)).add 2) = some (.int .i64 x21_2) ∧
        ∃ x21_3 : Int, W4.cell? ((q20.add ((x18 : Int).toNat * 5)).add 3) = some (.int .i64 x21_3) ∧
        ∃ s21_4 : ByteArray, W4.cell? ((q20.add ((x18 : Int).toNat * 5)).add 4) = some (.string s21_4) ∧
        Na W4 #[(.int .i64 0), (.int .i64 0), (.int .i64 0), (.int .i64 0), (.string (ByteArray.mk #[]))] 150 fun q6 W5 =>
        stC W5 q6 [(.int .i64 x21_0), (.int .i64 x21_1), (.int .i64 x21_2), (.int .i64 x21_3), (.string s21_4)] 0 fun W6 =>
        ∃ x24 : Int, W6.cell? (q6.add 0) = some (.int .i64 x24) ∧
        ∃ x29 : Int, ((decide ((x0 : Int) < x24)) = false → W6.cell? (q6.add 1) = some (.int .i64 x29)) ∧
        Br ((decide ((x0 : Int) < x24)) || (decide ((x0 : Int) > x29)))
          (L (IntKind.wrap .i64 (x18 + 1)) W6)
          (∃ x33 : Int, W6.cell? (q6.add 2) = some (.int .i64 x33) ∧
          ∃ x35 : Int, W6.cell? (q6.add 3) = some (.int .i64 x35) ∧
          ∃ s37 : ByteArray, W6.cell? (q6.add 4) = some (.string s37) ∧
          Na W6 #[(.int .i64 0), (.int .i64 0), (.bool false), (.slice none 0 0), (.slice none 0 0)] 131 fun q7 W7 =>
          stC W7 q7 [(.int .i64 x33), (.int .i64 x35), (.bool (!(s37.toList == ({ data := #[] } : ByteArray).toList))), (.slice none 0 0), (.slice none 0 0)] 0 fun W8 =>
          ∃ s41 : ByteArray, W8.cell? (q6.add 4) = some (.string s41) ∧
          RunV Tryd.prog (convert 9 59 (.string s41)) W8 fun v W9 => ∃ s42 : Sl, v = s42.v ∧
          ∀ L_1 : Bool → Int → World → Prop, (∀ (b8 : Bool) (x44 : Int) W10, (
            Br (decide ((x44 : Int) < (s42.len : Int)))
              (∃ q46 : Addr, (s42.a = some q46 ∧ (0 : Int) ≤ x44 ∧ x44 < (s42.len : Int)) ∧
              ∃ x47 : Int, W10.cell? (q46.add ((x44 : Int).toNat * 1)) = some (.int .u8 x47) ∧
              ∀ J_1 : Bool → Int → World → Prop, (∀ (b8_1 : Bool) (x11 : Int) W11, (
                Br b8_1
                  (∃ s57 : Sl, W11.cell? (q7.add 4) = some s57.v ∧
                  Na W11 #[(.int .i64 x11)] 3 fun q59 W12 =>
                  RunV Tryd.prog (Builtin.append_ #[24, 24] 24 #[s57.v, (.slice (some q59) 1 1)]) W12 fun v W13 => ∃ s60 : Sl, v = s60.v ∧
                  stC W13 (q7.add 4) [s60.v] 0 fun W14 =>
                  L_1 b8_1 (IntKind.wrap .i64 (x44 + 1)) W14)
                  (∃ s63 : Sl, W11.cell? (q7.add 3) = some s63.v ∧
                  Na W11 #[(.int .i64 x11)] 3 fun q65 W15 =>
                  RunV Tryd.prog (Builtin.append_ #[24, 24] 24 #[s63.v, (.slice (some q65) 1 1)]) W15 fun v W16 => ∃ s66 : Sl, v = s66.v ∧
                  stC W16 (q7.add 3) [s66.v] 0 fun W17 =>
                  L_1 b8_1 (IntKind.wrap .i64 (x44 + 1)) W17)) → J_1 b8_1 x11 W11) →
              Br ((x47 : Int) == 58)
                (L_1 true (IntKind.wrap .i64 (x44 + 1)) W10)
                (Br ((x47 : Int) == 108)
                  (J_1 b8 126 W10)
                  (Br ((x47 : Int) == 118)
                    (J_1 b8 123 W10)
                    (J_1 b8 127 W10))))
              (∃ x69_0 : Int, W10.cell? (q7.add 0) = some (.int .i64 x69_0) ∧
              ∃ x69_1 : Int, W10.cell? (q7.add 1) = some (.int .i64 x69_1) ∧
              ∃ b69_2 : Bool, W10.cell? (q7.add 2) = some (.bool b69_2) ∧
              ∃ s69_3 : Sl, W10.cell? (q7.add 3) = some s69_3.v ∧
              ∃ s69_4 : Sl, W10.cell? (q7.add 4) = some s69_4.v ∧
              stC W10 q2 [(.int .i64 x69_0), (.int .i64 x69_1), (.bool b69_2), s69_3.v, s69_4.v] 0 fun W18 =>
              ∃ xr2_0 : Int, W18.cell? (q2.add 0) = some (.int .i64 xr2_0) ∧
              ∃ xr2_1 : Int, W18.cell? (q2.add 1) = some (.int .i64 xr2_1) ∧
              ∃ br2_2 : Bool, W18.cell? (q2.add 2) = some (.bool br2_2) ∧
              ∃ sr2_3 : Sl, W18.cell? (q2.add 3) = some sr2_3.v ∧
              ∃ sr2_4 : Sl, W18.cell? (q2.add 4) = some sr2_4.v ∧
              R (.returned (.tuple #[(.agg #[(.int .i64 xr2_0), (.int .i64 xr2_1), (.bool br2_2), sr2_3.v, sr2_4.v]), (.bool true)])) W18)) → L_1 b8 x44 W10) →
          L_1 false 0 W9))
        (stC W4 q2 [(.int .i64 0), (.int .i64 0), (.bool false), (.slice none 0 0), (.slice none 0 0)] 0 fun W19 =>
        ∃ xr2_0_1 : Int, W19.cell? (q2.add 0) = some (.int .i64 xr2_0_1) ∧
        ∃ xr2_1_1 : Int, W19.cell? (q2.add 1) = some (.int .i64 xr2_1_1) ∧
        ∃ br2_2_1 : Bool, W19.cell? (q2.add 2) = some (.bool br2_2_1) ∧
        ∃ sr2_3_1 : Sl, W19.cell? (q2.add 3) = some sr2_3_1.v ∧
        ∃ sr2_4_1 : Sl, W19.cell? (q2.add 4) = some sr2_4_1.v ∧
        R (.returned (.tuple #[(.agg #[(.int .i64 xr2_0_1), (.int .i64 xr2_1_1), (.bool br2_2_1), sr2_3_1.v, sr2_4_1.v]), (.bool false)])) W19)) → L x18 W4) →
    L 0 W3) → J s4 W3) →
  Br (decide ((x0 : Int) ≥ 64768))
    (CallV Tryd.prog 76 #[] W2 fun v W20 => ∃ s15 : Sl, v = s15.v ∧
    J s15 W20)
    (J s12 W2)
theorem of_instr_Of (x0 : Int) (W : World) (R : Ending → World → Prop) (h : V_instr_Of x0 W R) : Calls Tryd.prog 63 #[(.int .i64 x0)] W R :=
  calls_of_vcF Tryd.mix Tryd.func63 (an := (.seq .nil (.seq .nil (.jn [(4, .sl)] [13, 14, 15] (.seq .nil (.cond .nil .nil)) (.seq (.seq .nil (.blk (.lp [(18, .int .i64)] [3, 6, 7, 8, 10, 11, 19, 20, 21, 22, 23, 24, 25, 26, 27, 28, 29, 30, 31, 32, 33, 34, 35, 36, 37, 38, 39, 40, 41, 42, 43, 44, 45, 46, 47, 48, 49, 50, 51, 52, 53, 54, 55, 56, 57, 58, 59, 60, 61, 62, 63, 64, 65, 66, 67, 68, 69, 70] (.seq .nil (.seq (.cond .nil .nil) (.seq (.blk (.seq .nil (.seq (.seq .nil (.cond .nil .nil)) (.seq .nil (.seq .nil (.seq (.seq .nil (.blk (.lp [(8, .bool), (44, .int .i64)] [10, 11, 45, 46, 47, 48, 49, 50, 51, 52, 53, 54, 55, 56, 57, 58, 59, 60, 61, 62, 63, 64, 65, 66, 67, 68] (.seq .nil (.seq (.cond .nil .nil) (.seq (.blk (.seq .nil (.seq .nil (.jn [(8, .bool), (11, .int .i64)] [48, 49, 50, 51, 52, 53, 54] (.seq .nil (.blk (.seq .nil (.cond (.seq .nil .nil) (.seq .nil (.cond .nil (.seq .nil (.cond .nil .nil)))))))) (.seq .nil (.cond .nil .nil)))))) .nil)))))) (.seq .nil .nil))))))) .nil)))))) (.seq .nil .nil)))))) (args := [(.int .i64 x0)]) (Eq.mpr (by kernel_rfl : vcF Tryd.prog Tryd.f63 (.seq .nil (.seq .nil (.jn [(4, .sl)] [13, 14, 15] (.seq .nil (.cond .nil .nil)) (.seq (.seq .nil (.blk (.lp [(18, .int .i64)] [3, 6, 7, 8, 10, 11, 19, 20, 21, 22, 23, 24, 25, 26, 27, 28, 29, 30, 31, 32, 33, 34, 35, 36, 37, 38, 39, 40, 41, 42, 43, 44, 45, 46, 47, 48, 49, 50, 51, 52, 53, 54, 55, 56, 57, 58, 59, 60, 61, 62, 63, 64, 65, 66, 67, 68, 69, 70] (.seq .nil (.seq (.cond .nil .nil) (.seq (.blk (.seq .nil (.seq (.seq .nil (.cond .nil .nil)) (.seq .nil (.seq .nil (.seq (.seq .nil (.blk (.lp [(8, .bool), (44, .int .i64)] [10, 11, 45, 46, 47, 48, 49, 50, 51, 52, 53, 54, 55, 56, 57, 58, 59, 60, 61, 62, 63, 64, 65, 66, 67, 68] (.seq .nil (.seq (.cond .nil .nil) (.seq (.blk (.seq .nil (.seq .nil (.jn [(8, .bool), (11, .int .i64)] [48, 49, 50, 51, 52, 53, 54] (.seq .nil (.blk (.seq .nil (.cond (.seq .nil .nil) (.seq .nil (.cond .nil (.seq .nil (.cond .nil .nil)))))))) (.seq .nil (.cond .nil .nil)))))) .nil)))))) (.seq .nil .nil))))))) .nil)))))) (.seq .nil .nil))))) [(.int .i64 x0)] W R = V_instr_Of x0 W R) h)

/-- (*plait/valid.walker).fields -/
def V_valid_walker_fields (p0 : Option Addr) (x1_0 : Int) (x1_1 : Int) (x1_2 : Int) (x1_3 : Int) (x1_4 : Int) (s1_5 : Sl) (x2_0 : Int) (x2_1 : Int) (b2_2 : Bool) (s2_3 : Sl) (s2_4 : Sl) (W : World) (R : Ending → World → Prop) : Prop :=
  Na W #[(.int .i64 x1_0), (.int .i64 x1_1), (.int .i64 x1_2), (.int .u64 x1_3), (.int .u64 x1_4), s1_5.v] 40 fun q4 W1 =>
  Na W1 #[(.int .i64 x2_0), (.int .i64 x2_1), (.bool b2_2), s2_3.v, s2_4.v] 131 fun q5 W2 =>
  ∃ x9 : Int, W2.cell? (q5.add 0) = some (.int .i64 x9) ∧
  ∀ J : Bool → World → Prop, (∀ (b10 : Bool) W3, (
    Br b10
      (∃ q16 : Addr, p0 = some q16 ∧
      ∃ s19 : Sl, W3.cell? ((q16.add 0).add 4) = some s19.v ∧
      ∃ x24 : Int, ((decide (((s19.len : Int) : Int) > 0)) = true → W3.cell? (q4.add 1) = some (.int .i64 x24)) ∧
      ∃ x26 : Int, ((decide (((s19.len : Int) : Int) > 0)) = true → W3.cell? (q5.add 1) = some (.int .i64 x26)) ∧
      CallV Tryd.prog 70 #[(.pointer p0), (.bool ((decide (((s19.len : Int) : Int) > 0)) && (decide ((x24 : Int) ≤ x26))))] W3 fun v W4 => v = (.tuple #[]) ∧
      Dw W4 fun W5 =>
      ∃ S : World → Prop, S W5 ∧
      ∃ x32 : Int, (∀ w, S w → w.cell? (q5.add 0) = some (.int .i64 x32)) ∧
      ∃ x36 : Int, (((x32 : Int) != 8) = false → (∀ w, S w → w.cell? (q4.add 3) = some (.int .u64 x36))) ∧
      ∃ x38 : Int, (((x32 : Int) != 8) = false → (∀ w, S w → w.cell? (q5.add 1) = some (.int .i64 x38))) ∧
      (((x32 : Int) != 8) = false → (0 : Int) ≤ x38) ∧
      CallV Tryd.prog 70 #[(.pointer p0), (.bool (((x32 : Int) != 8) || (decide ((x36 : Int) < (Int.fdiv 16 (2 ^ (min (x38 : Int).toNat (IntKind.bits .u64))))))))] W5 fun v W6 => v = (.tuple #[]) ∧
      S W6 ∧
      R (.returned (.tuple #[])) W6)
      (Br ((x9 : Int) == 13)
        (∃ x47 : Int, W3.cell? (q4.add 1) = some (.int .i64 x47) ∧
        ∃ x49 : Int, W3.cell? (q5.add 1) = some (.int .i64 x49) ∧
        CallV Tryd.prog 70 #[(.pointer p0), (.bool (decide ((x47 : Int) < x49)))] W3 fun v W7 => v = (.tuple #[]) ∧
        R (.returned (.tuple #[])) W7)
        (Br ((x9 : Int) == 12)
          (∃ x55 : Int, W3.cell? (q4.add 3) = some (.int .u64 x55) ∧
          ∃ x57 : Int, W3.cell? (q4.add 4) = some (.int .u64 x57) ∧
          CallV Tryd.prog 77 #[(.agg #[(.int .u64 x55), (.int .u64 x57)])] W3 fun v W8 => ∃ x59_0 : Int, ∃ x59_1 : Int, ∃ x59_2 : Int, ∃ x59_3 : Int, ∃ x59_4 : Int, ∃ x59_5 : Int, ∃ x59_6 : Int, ∃ x59_7 : Int, ∃ x59_8 : Int, ∃ x59_9 : Int, ∃ x59_10 : Int, ∃ x59_11 : Int, ∃ x59_12 : Int, ∃ x59_13 : Int, ∃ x59_14 : Int, ∃ x59_15 : Int, v = (.agg #[(.int .u8 x59_0), (.int .u8 x59_1), (.int .u8 x59_2), (.int .u8 x59_3), (.int .u8 x59_4), (.int .u8 x59_5), (.int .u8 x59_6), (.int .u8 x59_7), (.int .u8 x59_8), (.int .u8 x59_9), (.int .u8 x59_10), (.int .u8 x59_11), (.int .u8 x59_12), (.int .u8 x59_13), (.int .u8 x59_14), (.int .u8 x59_15)]) ∧
          ∀ L : Int → World → Prop, (∀ (x60 : Int) W9, (
            Br (decide ((x60 : Int) < 16))
              (RunV Tryd.prog (Instr.index 152 (.agg #[(.int .u8 x59_0), (.int .u8 x59_1), (.int .u8 x59_2), (.int .u8 x59_3), (.int .u8 x59_4), (.int .u8 x59_5), (.int .u8 x59_6), (.int .u8 x59_7), (.int .u8 x59_8), (.int .u8 x59_9), (.int .u8 x59_10), (.int .u8 x59_11), (.int .u8 x59_12), (.int .u8 x59_13), (.int .u8 x59_14), (.int .u8 x59_15)]) (.int .i64 x60)) W9 fun v W10 => ∃ x62 : Int, v = (.int .u8 x62) ∧
              CallV Tryd.prog 70 #[(.pointer p0), (.bool (decide ((x62 : Int) < 32)))] W10 fun v W11 => v = (.tuple #[]) ∧
              L (IntKind.wrap .i64 (x60 + 1)) W11)
              (R (.returned (.tuple #[])) W9)) → L x60 W9) →
          L 0 W8)
          (R (.returned (.tuple #[])) W3)))) → J b10 W3) →
  Br ((x9 : Int) == 7)
    (J ((x9 : Int) == 7) W2)
    (Br ((x9 : Int) == 8)
      (J ((x9 : Int) == 8) W2)
      (J ((x9 : Int) == 14) W2))
theorem of_valid_walker_fields (p0 : Option Addr) (x1_0 : Int) (x1_1 : Int) (x1_2 : Int) (x1_3 : Int) (x1_4 : Int) (s1_5 : Sl) (x2_0 : Int) (x2_1 : Int) (b2_2 : Bool) (s2_3 : Sl) (s2_4 : Sl) (W : World) (R : Ending → World → Prop) (h : V_valid_walker_fields p0 x1_0 x1_1 x1_2 x1_3 x1_4 s1_5 x2_0 x2_1 b2_2 s2_3 s2_4 W R) : Calls Tryd.prog 64 #[(.pointer p0), (.agg #[(.int .i64 x1_0), (.int .i64 x1_1), (.int .i64 x1_2), (.int .u64 x1_3), (.int .u64 x1_4), s1_5.v]), (.agg #[(.int .i64 x2_0), (.int .i64 x2_1), (.bool b2_2), s2_3.v, s2_4.v])] W R :=
  calls_of_vcF Tryd.mix Tryd.func64 (an := (.seq .nil (.seq .nil (.blk (.jn [(10, .bool)] [11, 12, 13] (.seq .nil (.cond .nil (.seq .nil (.cond .nil .nil)))) (.cond (.seq .nil .nil) (.seq .nil (.cond .nil (.seq .nil (.cond (.seq .nil (.blk (.lp [(60, .int .i64)] [7, 61, 62, 63, 64, 65, 66, 67] (.seq .nil (.seq (.cond .nil .nil) (.seq (.blk (.seq .nil .nil)) .nil)))))) .nil)))))))))) (args := [(.pointer p0), (.agg #[(.int .i64 x1_0), (.int .i64 x1_1), (.int .i64 x1_2), (.int .u64 x1_3), (.int .u64 x1_4), s1_5.v]), (.agg #[(.int .i64 x2_0), (.int .i64 x2_1), (.bool b2_2), s2_3.v, s2_4.v])]) (Eq.mpr (by kernel_rfl : vcF Tryd.prog Tryd.f64 (.seq .nil (.seq .nil (.blk (.jn [(10, .bool)] [11, 12, 13] (.seq .nil (.cond .nil (.seq .nil (.cond .nil .nil)))) (.cond (.seq .nil .nil) (.seq .nil (.cond .nil (.seq .nil (.cond (.seq .nil (.blk (.lp [(60, .int .i64)] [7, 61, 62, 63, 64, 65, 66, 67] (.seq .nil (.seq (.cond .nil .nil) (.seq (.blk (.seq .nil .nil)) .nil)))))) .nil))))))))) [(.pointer p0), (.agg #[(.int .i64 x1_0), (.int .i64 x1_1), (.int .i64 x1_2), (.int .u64 x1_3), (.int .u64 x1_4), s1_5.v]), (.agg #[(.int .i64 x2_0), (.int .i64 x2_1), (.bool b2_2), s2_3.v, s2_4.v])] W R = V_valid_walker_fields p0 x1_0 x1_1 x1_2 x1_3 x1_4 s1_5 x2_0 x2_1 b2_2 s2_3 s2_4 W R) h)

/-- (*plait/valid.walker).takes -/
def V_valid_walker_takes (p0 : Option Addr) (s1 : Sl) (W : World) (R : Ending → World → Prop) : Prop :=
  ∀ L : Int → World → Prop, (∀ (x4 : Int) W1, (
    Br (decide ((x4 : Int) ≥ 0))
      (∃ q15 : Addr, (s1.a = some q15 ∧ (0 : Int) ≤ x4 ∧ x4 < (s1.len : Int)) ∧
      ∃ x16 : Int, W1.cell? (q15.add ((x4 : Int).toNat * 1)) = some (.int .i64 x16) ∧
      CallV Tryd.prog 67 #[(.pointer p0), (.int .i64 x16)] W1 fun v W2 => ∃ x17 : Int, v = (.int .i64 x17) ∧
      L (IntKind.wrap .i64 (x4 - 1)) W2)
      (R (.returned (.tuple #[])) W1)) → L x4 W1) →
  L (IntKind.wrap .i64 ((s1.len : Int) - 1)) W
theorem of_valid_walker_takes (p0 : Option Addr) (s1 : Sl) (W : World) (R : Ending → World → Prop) (h : V_valid_walker_takes p0 s1 W R) : Calls Tryd.prog 65 #[(.pointer p0), s1.v] W R :=
  calls_of_vcF Tryd.mix Tryd.func65 (an := (.seq .nil (.blk (.lp [(4, .int .i64)] [8, 9, 10, 11, 12, 13, 14, 15, 16, 17] (.seq (.seq .nil (.cond .nil .nil)) (.seq (.blk .nil) .nil)))))) (args := [(.pointer p0), s1.v]) (Eq.mpr (by kernel_rfl : vcF Tryd.prog Tryd.f65 (.seq .nil (.blk (.lp [(4, .int .i64)] [8, 9, 10, 11, 12, 13, 14, 15, 16, 17] (.seq (.seq .nil (.cond .nil .nil)) (.seq (.blk .nil) .nil))))) [(.pointer p0), s1.v] W R = V_valid_walker_takes p0 s1 W R) h)

/-- (*plait/valid.walker).gives -/
def V_valid_walker_gives (p0 : Option Addr) (s1 : Sl) (W : World) (R : Ending → World → Prop) : Prop :=
  ∃ q6 : Addr, p0 = some q6 ∧
  ∃ s8 : Sl, W.cell? (q6.add 12) = some s8.v ∧
  RunV Tryd.prog (Builtin.append_ #[24, 24] 24 #[s8.v, s1.v]) W fun v W1 => ∃ s10 : Sl, v = s10.v ∧
  ∃ q11 : Addr, p0 = some q11 ∧
  stC W1 (q11.add 12) [s10.v] 0 fun W2 =>
  R (.returned (.tuple #[])) W2
theorem of_valid_walker_gives (p0 : Option Addr) (s1 : Sl) (W : World) (R : Ending → World → Prop) (h : V_valid_walker_gives p0 s1 W R) : Calls Tryd.prog 66 #[(.pointer p0), s1.v] W R :=
  calls_of_vcF Tryd.mix Tryd.func66 (an := .nil) (args := [(.pointer p0), s1.v]) (Eq.mpr (by kernel_rfl : vcF Tryd.prog Tryd.f66 .nil [(.pointer p0), s1.v] W R = V_valid_walker_gives p0 s1 W R) h)

/-- (*plait/valid.walker).take -/
def V_valid_walker_take (p0 : Option Addr) (x1 : Int) (W : World) (R : Ending → World → Prop) : Prop :=
  CallV Tryd.prog 54 #[(.pointer p0)] W fun v W1 => ∃ p8 : Option Addr, v = (.pointer p8) ∧
  Dw W1 fun W2 =>
  ∃ q10 : Addr, p0 = some q10 ∧
  ∃ s12 : Sl, W2.cell? (q10.add 12) = some s12.v ∧
  ∃ q15 : Addr, p8 = some q15 ∧
  ∃ x17 : Int, W2.cell? (q15.add 1) = some (.int .i64 x17) ∧
  Br (((s12.len : Int) : Int) == x17)
    (∃ q21 : Addr, p8 = some q21 ∧
    ∃ b23 : Bool, W2.cell? (q21.add 4) = some (.bool b23) ∧
    CallV Tryd.prog 70 #[(.pointer p0), (.bool b23)] W2 fun v W3 => v = (.tuple #[]) ∧
    R (.returned (.int .i64 x1)) W3)
    (Dw W2 fun W4 =>
    ∃ q27 : Addr, p0 = some q27 ∧
    ∃ s29 : Sl, W4.cell? (q27.add 12) = some s29.v ∧
    ∃ q31 : Addr, p0 = some q31 ∧
    ∃ s33 : Sl, W4.cell? (q31.add 12) = some s33.v ∧
    ∃ q36 : Addr, (s29.a = some q36 ∧ (0 : Int) ≤ (IntKind.wrap .i64 ((s33.len : Int) - 1)) ∧ (IntKind.wrap .i64 ((s33.len : Int) - 1)) < (s29.len : Int)) ∧
    ∃ x37 : Int, W4.cell? (q36.add (((IntKind.wrap .i64 ((s33.len : Int) - 1)) : Int).toNat * 1)) = some (.int .i64 x37) ∧
    Dw W4 fun W5 =>
    ∃ q40 : Addr, p0 = some q40 ∧
    ∃ s42 : Sl, W5.cell? (q40.add 12) = some s42.v ∧
    ∃ q44 : Addr, p0 = some q44 ∧
    ∃ s46 : Sl, W5.cell? (q44.add 12) = some s46.v ∧
    ((0 : Int) ≤ (IntKind.wrap .i64 ((s46.len : Int) - 1)) ∧ (IntKind.wrap .i64 ((s46.len : Int) - 1)) ≤ (s42.cap : Int)) ∧
    ∃ q50 : Addr, p0 = some q50 ∧
    stC W5 (q50.add 12) [(.slice (if s42.cap = 0 then s42.a else Option.map (fun a : Addr => a.add (0 * 1)) s42.a) (((IntKind.wrap .i64 ((s46.len : Int) - 1)) : Int).toNat - 0) (s42.cap - 0))] 0 fun W6 =>
    CallV Tryd.prog 70 #[(.pointer p0), (.bool ((((x37 : Int) == x1) || ((x37 : Int) == 0)) || ((x1 : Int) == 0)))] W6 fun v W7 => v = (.tuple #[]) ∧
    Br ((x37 : Int) == 0)
      (R (.returned (.int .i64 x1)) W7)
      (R (.returned (.int .i64 x37)) W7))
theorem of_valid_walker_take (p0 : Option Addr) (x1 : Int) (W : World) (R : Ending → World → Prop) (h : V_valid_walker_take p0 x1 W R) : Calls Tryd.prog 67 #[(.pointer p0), (.int .i64 x1)] W R :=
  calls_of_vcF Tryd.mix Tryd.func67 (an := (.seq .nil (.seq .nil (.seq (.seq .nil (.cond (.seq .nil (.seq .nil .nil)) .nil)) (.seq .nil (.seq .nil (.seq .nil (.seq (.seq .nil (.cond (.seq .nil .nil) .nil)) (.seq .nil .nil))))))))) (args := [(.pointer p0), (.int .i64 x1)]) (Eq.mpr (by kernel_rfl : vcF Tryd.prog Tryd.f67 (.seq .nil (.seq .nil (.seq (.seq .nil (.cond (.seq .nil (.seq .nil .nil)) .nil)) (.seq .nil (.seq .nil (.seq .nil (.seq (.seq .nil (.cond (.seq .nil .nil) .nil)) (.seq .nil .nil)))))))) [(.pointer p0), (.int .i64 x1)] W R = V_valid_walker_take p0 x1 W R) h)

/-- (*plait/valid.walker).sig -/
def V_valid_walker_sig (p0 : Option Addr) (x1 : Int) (W : World) (R : Ending → World → Prop) : Prop :=
  Na W #[(.slice none 0 0), (.slice none 0 0)] 37 fun q4 W1 =>
  Br (decide ((x1 : Int) ≥ 0))
    (∃ q12 : Addr, p0 = some q12 ∧
    ∃ s14_0 : Sl, W1.cell? ((q12.add 0).add 0) = some s14_0.v ∧
    ∃ s14_1 : Sl, W1.cell? ((q12.add 0).add 1) = some s14_1.v ∧
    ∃ s14_2 : Sl, W1.cell? ((q12.add 0).add 2) = some s14_2.v ∧
    ∃ s14_3 : Sl, W1.cell? ((q12.add 0).add 3) = some s14_3.v ∧
    ∃ s14_4 : Sl, W1.cell? ((q12.add 0).add 4) = some s14_4.v ∧
    ∃ s14_5 : Sl, W1.cell? ((q12.add 0).add 5) = some s14_5.v ∧
    ∃ s14_6 : Sl, W1.cell? ((q12.add 0).add 6) = some s14_6.v ∧
    ∃ x14_7 : Int, W1.cell? ((q12.add 0).add 7) = some (.int .i64 x14_7) ∧
    ∃ s14_8 : Sl, W1.cell? ((q12.add 0).add 8) = some s14_8.v ∧
    ∃ s14_9 : Sl, W1.cell? ((q12.add 0).add 9) = some s14_9.v ∧
    ∃ s14_10 : Sl, W1.cell? ((q12.add 0).add 10) = some s14_10.v ∧
    CallV Tryd.prog 16 #[(.agg #[s14_0.v, s14_1.v, s14_2.v, s14_3.v, s14_4.v, s14_5.v, s14_6.v, (.int .i64 x14_7), s14_8.v, s14_9.v, s14_10.v]), (.int .i64 x1)] W1 fun v W2 => ∃ s16_0_0 : Sl, ∃ s16_0_1 : Sl, ∃ b16_1 : Bool, v = (.tuple #[(.agg #[s16_0_0.v, s16_0_1.v]), (.bool b16_1)]) ∧
    Na W2 #[(.slice none 0 0), (.slice none 0 0)] 37 fun q5 W3 =>
    stC W3 q5 [s16_0_0.v, s16_0_1.v] 0 fun W4 =>
    CallV Tryd.prog 70 #[(.pointer p0), (.bool b16_1)] W4 fun v W5 => v = (.tuple #[]) ∧
    ∃ s22_0 : Sl, W5.cell? (q5.add 0) = some s22_0.v ∧
    ∃ s22_1 : Sl, W5.cell? (q5.add 1) = some s22_1.v ∧
    stC W5 q4 [s22_0.v, s22_1.v] 0 fun W6 =>
    ∃ sr4_0 : Sl, W6.cell? (q4.add 0) = some sr4_0.v ∧
    ∃ sr4_1 : Sl, W6.cell? (q4.add 1) = some sr4_1.v ∧
    R (.returned (.agg #[sr4_0.v, sr4_1.v])) W6)
    (Br ((x1 : Int) == (-64))
      (stC W1 q4 [(.slice none 0 0), (.slice none 0 0)] 0 fun W7 =>
      ∃ sr4_0_1 : Sl, W7.cell? (q4.add 0) = some sr4_0_1.v ∧
      ∃ sr4_1_1 : Sl, W7.cell? (q4.add 1) = some sr4_1_1.v ∧
      R (.returned (.agg #[sr4_0_1.v, sr4_1_1.v])) W7)
      (Na W1 #[(.int .i64 (IntKind.wrap .i64 (x1 + 128)))] 3 fun q29 W8 =>
      stC W8 q4 [(.slice none 0 0), (.slice (some q29) 1 1)] 0 fun W9 =>
      ∃ sr4_0_2 : Sl, W9.cell? (q4.add 0) = some sr4_0_2.v ∧
      ∃ sr4_1_2 : Sl, W9.cell? (q4.add 1) = some sr4_1_2.v ∧
      R (.returned (.agg #[sr4_0_2.v, sr4_1_2.v])) W9))
theorem of_valid_walker_sig (p0 : Option Addr) (x1 : Int) (W : World) (R : Ending → World → Prop) (h : V_valid_walker_sig p0 x1 W R) : Calls Tryd.prog 68 #[(.pointer p0), (.int .i64 x1)] W R :=
  calls_of_vcF Tryd.mix Tryd.func68 (an := (.seq .nil (.seq (.blk (.seq .nil (.cond (.seq .nil (.seq .nil (.seq .nil .nil))) (.seq .nil (.cond (.seq .nil .nil) .nil))))) (.seq .nil .nil)))) (args := [(.pointer p0), (.int .i64 x1)]) (Eq.mpr (by kernel_rfl : vcF Tryd.prog Tryd.f68 (.seq .nil (.seq (.blk (.seq .nil (.cond (.seq .nil (.seq .nil (.seq .nil .nil))) (.seq .nil (.cond (.seq .nil .nil) .nil))))) (.seq .nil .nil))) [(.pointer p0), (.int .i64 x1)] W R = V_valid_walker_sig p0 x1 W R) h)

/-- (*plait/valid.walker).close -/
def V_valid_walker_close (p0 : Option Addr) (x1 : Int) (W : World) (R : Ending → World → Prop) : Prop :=
  CallV Tryd.prog 54 #[(.pointer p0)] W fun v W1 => ∃ p6 : Option Addr, v = (.pointer p6) ∧
  ∃ q7 : Addr, p6 = some q7 ∧
  ∃ x8_0 : Int, W1.cell? (q7.add 0) = some (.int .i64 x8_0) ∧
  ∃ x8_1 : Int, W1.cell? (q7.add 1) = some (.int .i64 x8_1) ∧
  ∃ s8_2 : Sl, W1.cell? (q7.add 2) = some s8_2.v ∧
  ∃ s8_3 : Sl, W1.cell? (q7.add 3) = some s8_3.v ∧
  ∃ b8_4 : Bool, W1.cell? (q7.add 4) = some (.bool b8_4) ∧
  ∃ b8_5 : Bool, W1.cell? (q7.add 5) = some (.bool b8_5) ∧
  Na W1 #[(.int .i64 0), (.int .i64 0), (.slice none 0 0), (.slice none 0 0), (.bool false), (.bool false)] 117 fun q4 W2 =>
  stC W2 q4 [(.int .i64 x8_0), (.int .i64 x8_1), s8_2.v, s8_3.v, (.bool b8_4), (.bool b8_5)] 0 fun W3 =>
  ∃ s11 : Sl, W3.cell? (q4.add 3) = some s11.v ∧
  CallV Tryd.prog 65 #[(.pointer p0), s11.v] W3 fun v W4 => v = (.tuple #[]) ∧
  Dw W4 fun W5 =>
  ∃ S : World → Prop, S W5 ∧
  ∃ q15 : Addr, p0 = some q15 ∧
  ∃ s17 : Sl, (∀ w, S w → w.cell? (q15.add 12) = some s17.v) ∧
  ∃ x20 : Int, (∀ w, S w → w.cell? (q4.add 1) = some (.int .i64 x20)) ∧
  CallV Tryd.prog 70 #[(.pointer p0), (.bool (((s17.len : Int) : Int) == x20))] W5 fun v W6 => v = (.tuple #[]) ∧
  S W6 ∧
  Dw W6 fun W7 =>
  ∃ q25 : Addr, p0 = some q25 ∧
  ∃ s27 : Sl, W7.cell? (q25.add 13) = some s27.v ∧
  ∃ q29 : Addr, p0 = some q29 ∧
  ∃ s31 : Sl, W7.cell? (q29.add 13) = some s31.v ∧
  ((0 : Int) ≤ (IntKind.wrap .i64 ((s31.len : Int) - 1)) ∧ (IntKind.wrap .i64 ((s31.len : Int) - 1)) ≤ (s27.cap : Int)) ∧
  ∃ q35 : Addr, p0 = some q35 ∧
  stC W7 (q35.add 13) [(.slice (if s27.cap = 0 then s27.a else Option.map (fun a : Addr => a.add (0 * 6)) s27.a) (((IntKind.wrap .i64 ((s31.len : Int) - 1)) : Int).toNat - 0) (s27.cap - 0))] 0 fun W8 =>
  ∃ q38 : Addr, p0 = some q38 ∧
  ∃ b40 : Bool, W8.cell? (q38.add 14) = some (.bool b40) ∧
  Br b40
    (Dw W8 fun W9 =>
    ∃ S_1 : World → Prop, S_1 W9 ∧
    ∃ q43 : Addr, p0 = some q43 ∧
    ∃ s45 : Sl, (∀ w, S_1 w → w.cell? (q43.add 13) = some s45.v) ∧
    ∃ x46_0 : Int, (∀ w, S_1 w → w.cell? (q4.add 0) = some (.int .i64 x46_0)) ∧
    ∃ x46_1 : Int, (∀ w, S_1 w → w.cell? (q4.add 1) = some (.int .i64 x46_1)) ∧
    ∃ s46_2 : Sl, (∀ w, S_1 w → w.cell? (q4.add 2) = some s46_2.v) ∧
    ∃ s46_3 : Sl, (∀ w, S_1 w → w.cell? (q4.add 3) = some s46_3.v) ∧
    ∃ b46_4 : Bool, (∀ w, S_1 w → w.cell? (q4.add 4) = some (.bool b46_4)) ∧
    ∃ b46_5 : Bool, (∀ w, S_1 w → w.cell? (q4.add 5) = some (.bool b46_5)) ∧
    Na W9 #[(.int .i64 x46_0), (.int .i64 x46_1), s46_2.v, s46_3.v, (.bool b46_4), (.bool b46_5)] 117 fun q47 W10 =>
    S_1 W10 ∧
    RunV Tryd.prog (Builtin.append_ #[110, 110] 110 #[s45.v, (.slice (some q47) 1 1)]) W10 fun v W11 => ∃ s48 : Sl, v = s48.v ∧
    S_1 W11 ∧
    ∃ q49 : Addr, p0 = some q49 ∧
    stC W11 (q49.add 13) [s48.v] 0 fun W12 =>
    R (.returned (.tuple #[])) W12)
    (Br ((x1 : Int) == 5)
      (∃ s55 : Sl, W8.cell? (q4.add 2) = some s55.v ∧
      ∃ s57 : Sl, W8.cell? (q4.add 3) = some s57.v ∧
      CallV Tryd.prog 53 #[(.pointer p0), (.int .i64 5), (.agg #[s55.v, s57.v])] W8 fun v W13 => v = (.tuple #[]) ∧
      ∃ s62 : Sl, W13.cell? (q4.add 2) = some s62.v ∧
      CallV Tryd.prog 66 #[(.pointer p0), s62.v] W13 fun v W14 => v = (.tuple #[]) ∧
      R (.returned (.tuple #[])) W14)
      (∀ J : World → Prop, (∀ W15, (
        ∃ s78 : Sl, W15.cell? (q4.add 3) = some s78.v ∧
        CallV Tryd.prog 66 #[(.pointer p0), s78.v] W15 fun v W16 => v = (.tuple #[]) ∧
        R (.returned (.tuple #[])) W16) → J W15) →
      ∃ x66 : Int, W8.cell? (q4.add 0) = some (.int .i64 x66) ∧
      ∃ s70 : Sl, (((x66 : Int) != 4) = false → W8.cell? (q4.add 2) = some s70.v) ∧
      ∃ s72 : Sl, (((x66 : Int) != 4) = false → W8.cell? (q4.add 3) = some s72.v) ∧
      (((x66 : Int) != 4) = false →
        CallV Tryd.prog 78 #[s70.v, s72.v] W8 fun v W17 => ∃ b73 : Bool, v = (.bool b73) ∧
        CallV Tryd.prog 70 #[(.pointer p0), (.bool b73)] W17 fun v W18 => v = (.tuple #[]) ∧
      J W18) ∧
      (((x66 : Int) != 4) = !false →
        CallV Tryd.prog 70 #[(.pointer p0), (.bool true)] W8 fun v W19 => v = (.tuple #[]) ∧
      J W19)))
theorem of_valid_walker_close (p0 : Option Addr) (x1 : Int) (W : World) (R : Ending → World → Prop) (h : V_valid_walker_close p0 x1 W R) : Calls Tryd.prog 69 #[(.pointer p0), (.int .i64 x1)] W R :=
  calls_of_vcF Tryd.mix Tryd.func69 (an := (.seq .nil (.seq .nil (.seq .nil (.seq .nil (.seq (.seq .nil (.cond (.seq .nil .nil) .nil)) (.seq (.seq .nil (.cond (.seq .nil (.seq .nil .nil)) .nil)) (.jn [] [64, 65, 66, 67, 68, 69, 70, 71, 72, 73, 74, 75] .nil .nil)))))))) (args := [(.pointer p0), (.int .i64 x1)]) (Eq.mpr (by kernel_rfl : vcF Tryd.prog Tryd.f69 (.seq .nil (.seq .nil (.seq .nil (.seq .nil (.seq (.seq .nil (.cond (.seq .nil .nil) .nil)) (.seq (.seq .nil (.cond (.seq .nil (.seq .nil .nil)) .nil)) (.jn [] [64, 65, 66, 67, 68, 69, 70, 71, 72, 73, 74, 75] .nil .nil))))))) [(.pointer p0), (.int .i64 x1)] W R = V_valid_walker_close p0 x1 W R) h)

/-- (*plait/valid.walker).must -/
def V_valid_walker_must (p0 : Option Addr) (b1 : Bool) (W : World) (R : Ending → World → Prop) : Prop :=
  ∃ q6 : Addr, p0 = some q6 ∧
  ∃ b8 : Bool, W.cell? (q6.add 14) = some (.bool b8) ∧
  ∃ q13 : Addr, p0 = some q13 ∧
  stC W (q13.add 14) [(.bool (b8 || (!b1)))] 0 fun W1 =>
  R (.returned (.tuple #[])) W1
theorem of_valid_walker_must (p0 : Option Addr) (b1 : Bool) (W : World) (R : Ending → World → Prop) (h : V_valid_walker_must p0 b1 W R) : Calls Tryd.prog 70 #[(.pointer p0), (.bool b1)] W R :=
  calls_of_vcF Tryd.mix Tryd.func70 (an := .nil) (args := [(.pointer p0), (.bool b1)]) (Eq.mpr (by kernel_rfl : vcF Tryd.prog Tryd.f70 .nil [(.pointer p0), (.bool b1)] W R = V_valid_walker_must p0 b1 W R) h)

/-- (*plait/valid.walker).jump -/
def V_valid_walker_jump (p0 : Option Addr) (x1_0 : Int) (x1_1 : Int) (x1_2 : Int) (x1_3 : Int) (x1_4 : Int) (s1_5 : Sl) (W : World) (R : Ending → World → Prop) : Prop :=
  Na W #[(.int .i64 x1_0), (.int .i64 x1_1), (.int .i64 x1_2), (.int .u64 x1_3), (.int .u64 x1_4), s1_5.v] 40 fun q3 W1 =>
  ∃ x10 : Int, W1.cell? (q3.add 0) = some (.int .i64 x10) ∧
  Br ((x10 : Int) == 0)
    (CallV Tryd.prog 79 #[(.pointer p0)] W1 fun v W2 => v = (.tuple #[]) ∧
    R (.returned (.tuple #[])) W2)
    (Br ((x10 : Int) == 12)
      (∃ x23 : Int, W1.cell? (q3.add 1) = some (.int .i64 x23) ∧
      CallV Tryd.prog 80 #[(.pointer p0), (.int .i64 x23)] W1 fun v W3 => ∃ s24 : Sl, v = s24.v ∧
      CallV Tryd.prog 65 #[(.pointer p0), s24.v] W3 fun v W4 => v = (.tuple #[]) ∧
      CallV Tryd.prog 79 #[(.pointer p0)] W4 fun v W5 => v = (.tuple #[]) ∧
      R (.returned (.tuple #[])) W5)
      (Br ((x10 : Int) == 13)
        (CallV Tryd.prog 67 #[(.pointer p0), (.int .i64 127)] W1 fun v W6 => ∃ x31 : Int, v = (.int .i64 x31) ∧
        ∃ x34 : Int, W6.cell? (q3.add 1) = some (.int .i64 x34) ∧
        CallV Tryd.prog 80 #[(.pointer p0), (.int .i64 x34)] W6 fun v W7 => ∃ s35 : Sl, v = s35.v ∧
        CallV Tryd.prog 65 #[(.pointer p0), s35.v] W7 fun v W8 => v = (.tuple #[]) ∧
        CallV Tryd.prog 66 #[(.pointer p0), s35.v] W8 fun v W9 => v = (.tuple #[]) ∧
        R (.returned (.tuple #[])) W9)
        (Br ((x10 : Int) == 14)
          (CallV Tryd.prog 67 #[(.pointer p0), (.int .i64 127)] W1 fun v W10 => ∃ x45 : Int, v = (.int .i64 x45) ∧
          ∃ x48 : Int, W10.cell? (q3.add 1) = some (.int .i64 x48) ∧
          CallV Tryd.prog 80 #[(.pointer p0), (.int .i64 x48)] W10 fun v W11 => ∃ s49 : Sl, v = s49.v ∧
          ∃ s51 : Sl, W11.cell? (q3.add 5) = some s51.v ∧
          ∀ L : Int → World → Prop, (∀ (x53 : Int) W12, (
            Br (decide ((x53 : Int) < (s51.len : Int)))
              (∃ q55 : Addr, (s51.a = some q55 ∧ (0 : Int) ≤ x53 ∧ x53 < (s51.len : Int)) ∧
              ∃ x56 : Int, W12.cell? (q55.add ((x53 : Int).toNat * 1)) = some (.int .i64 x56) ∧
              CallV Tryd.prog 80 #[(.pointer p0), (.int .i64 x56)] W12 fun v W13 => ∃ s59 : Sl, v = s59.v ∧
              CallV Tryd.prog 70 #[(.pointer p0), (.bool (((s59.len : Int) : Int) == (s49.len : Int)))] W13 fun v W14 => v = (.tuple #[]) ∧
              CallV Tryd.prog 81 #[(.pointer p0), s59.v] W14 fun v W15 => v = (.tuple #[]) ∧
              L (IntKind.wrap .i64 (x53 + 1)) W15)
              (CallV Tryd.prog 65 #[(.pointer p0), s49.v] W12 fun v W16 => v = (.tuple #[]) ∧
              CallV Tryd.prog 79 #[(.pointer p0)] W16 fun v W17 => v = (.tuple #[]) ∧
              R (.returned (.tuple #[])) W17)) → L x53 W12) →
          L 0 W11)
          (Br ((x10 : Int) == 15)
            (∃ q80 : Addr, p0 = some q80 ∧
            ∃ s82 : Sl, W1.cell? (q80.add 13) = some s82.v ∧
            ∃ q83 : Addr, (s82.a = some q83 ∧ (0 : Int) ≤ 0 ∧ 0 < (s82.len : Int)) ∧
            ∃ s85 : Sl, W1.cell? ((q83.add ((0 : Int).toNat * 6)).add 3) = some s85.v ∧
            CallV Tryd.prog 65 #[(.pointer p0), s85.v] W1 fun v W18 => v = (.tuple #[]) ∧
            CallV Tryd.prog 79 #[(.pointer p0)] W18 fun v W19 => v = (.tuple #[]) ∧
            R (.returned (.tuple #[])) W19)
            (∃ x12_0 : Int, W1.cell? (q3.add 0) = some (.int .i64 x12_0) ∧
            ∃ x12_1 : Int, W1.cell? (q3.add 1) = some (.int .i64 x12_1) ∧
            ∃ x12_2 : Int, W1.cell? (q3.add 2) = some (.int .i64 x12_2) ∧
            ∃ x12_3 : Int, W1.cell? (q3.add 3) = some (.int .u64 x12_3) ∧
            ∃ x12_4 : Int, W1.cell? (q3.add 4) = some (.int .u64 x12_4) ∧
            ∃ s12_5 : Sl, W1.cell? (q3.add 5) = some s12_5.v ∧
            CallV Tryd.prog 82 #[(.pointer p0), (.agg #[(.int .i64 x12_0), (.int .i64 x12_1), (.int .i64 x12_2), (.int .u64 x12_3), (.int .u64 x12_4), s12_5.v])] W1 fun v W20 => v = (.tuple #[]) ∧
            R (.returned (.tuple #[])) W20)))))
theorem of_valid_walker_jump (p0 : Option Addr) (x1_0 : Int) (x1_1 : Int) (x1_2 : Int) (x1_3 : Int) (x1_4 : Int) (s1_5 : Sl) (W : World) (R : Ending → World → Prop) (h : V_valid_walker_jump p0 x1_0 x1_1 x1_2 x1_3 x1_4 s1_5 W R) : Calls Tryd.prog 71 #[(.pointer p0), (.agg #[(.int .i64 x1_0), (.int .i64 x1_1), (.int .i64 x1_2), (.int .u64 x1_3), (.int .u64 x1_4), s1_5.v])] W R :=
  calls_of_vcF Tryd.mix Tryd.func71 (an := (.seq .nil (.seq .nil (.blk (.seq .nil (.cond .nil (.seq .nil (.cond (.seq .nil .nil) (.seq .nil (.cond (.seq .nil (.seq .nil (.seq .nil .nil))) (.seq .nil (.cond (.seq .nil (.seq .nil (.seq (.seq .nil (.blk (.lp [(53, .int .i64)] [7, 8, 54, 55, 56, 57, 58, 59, 60, 61, 62, 63, 64, 65, 66, 67, 68, 69, 70] (.seq .nil (.seq (.cond .nil .nil) (.seq (.blk (.seq .nil (.seq .nil (.seq .nil .nil)))) .nil)))))) (.seq .nil .nil)))) (.seq .nil (.cond (.seq .nil .nil) .nil)))))))))))))) (args := [(.pointer p0), (.agg #[(.int .i64 x1_0), (.int .i64 x1_1), (.int .i64 x1_2), (.int .u64 x1_3), (.int .u64 x1_4), s1_5.v])]) (Eq.mpr (by kernel_rfl : vcF Tryd.prog Tryd.f71 (.seq .nil (.seq .nil (.blk (.seq .nil (.cond .nil (.seq .nil (.cond (.seq .nil .nil) (.seq .nil (.cond (.seq .nil (.seq .nil (.seq .nil .nil))) (.seq .nil (.cond (.seq .nil (.seq .nil (.seq (.seq .nil (.blk (.lp [(53, .int .i64)] [7, 8, 54, 55, 56, 57, 58, 59, 60, 61, 62, 63, 64, 65, 66, 67, 68, 69, 70] (.seq .nil (.seq (.cond .nil .nil) (.seq (.blk (.seq .nil (.seq .nil (.seq .nil .nil)))) .nil)))))) (.seq .nil .nil)))) (.seq .nil (.cond (.seq .nil .nil) .nil))))))))))))) [(.pointer p0), (.agg #[(.int .i64 x1_0), (.int .i64 x1_1), (.int .i64 x1_2), (.int .u64 x1_3), (.int .u64 x1_4), s1_5.v])] W R = V_valid_walker_jump p0 x1_0 x1_1 x1_2 x1_3 x1_4 s1_5 W R) h)

/-- plait/expr.closed -/
def V_expr_closed (s0 : Sl) (W : World) (R : Ending → World → Prop) : Prop :=
  ∀ L : Sl → Int → World → Prop, (∀ (s3 : Sl) (x9 : Int) W1, (
    Br (decide ((x9 : Int) < (s0.len : Int)))
      (∃ q12 : Addr, (s0.a = some q12 ∧ (0 : Int) ≤ x9 ∧ x9 < (s0.len : Int)) ∧
      ∃ x13_0 : Int, W1.cell? ((q12.add ((x9 : Int).toNat * 6)).add 0) = some (.int .i64 x13_0) ∧
      ∃ x13_1 : Int, W1.cell? ((q12.add ((x9 : Int).toNat * 6)).add 1) = some (.int .i64 x13_1) ∧
      ∃ x13_2 : Int, W1.cell? ((q12.add ((x9 : Int).toNat * 6)).add 2) = some (.int .i64 x13_2) ∧
      ∃ x13_3 : Int, W1.cell? ((q12.add ((x9 : Int).toNat * 6)).add 3) = some (.int .u64 x13_3) ∧
      ∃ x13_4 : Int, W1.cell? ((q12.add ((x9 : Int).toNat * 6)).add 4) = some (.int .u64 x13_4) ∧
      ∃ s13_5 : Sl, W1.cell? ((q12.add ((x9 : Int).toNat * 6)).add 5) = some s13_5.v ∧
      Na W1 #[(.int .i64 0), (.int .i64 0), (.int .i64 0), (.int .u64 0), (.int .u64 0), (.slice none 0 0)] 40 fun q5 W2 =>
      stC W2 q5 [(.int .i64 x13_0), (.int .i64 x13_1), (.int .i64 x13_2), (.int .u64 x13_3), (.int .u64 x13_4), s13_5.v] 0 fun W3 =>
      ∃ x17 : Int, W3.cell? (q5.add 0) = some (.int .i64 x17) ∧
      ∀ J : Bool → World → Prop, (∀ (b18 : Bool) W4, (
        Br b18
          (Br (((s3.len : Int) : Int) == 128)
            (R (.returned (.bool false)) W4)
            (∃ x26 : Int, W4.cell? (q5.add 0) = some (.int .i64 x26) ∧
            Na W4 #[(.int .i64 x26)] 3 fun q27 W5 =>
            RunV Tryd.prog (Builtin.append_ #[24, 24] 24 #[s3.v, (.slice (some q27) 1 1)]) W5 fun v W6 => ∃ s28 : Sl, v = s28.v ∧
            L s28 (IntKind.wrap .i64 (x9 + 1)) W6))
          (Br ((x17 : Int) == 5)
            (∃ q37 : Addr, ((((s3.len : Int) : Int) == 0) = false → (s3.a = some q37 ∧ (0 : Int) ≤ (IntKind.wrap .i64 ((s3.len : Int) - 1)) ∧ (IntKind.wrap .i64 ((s3.len : Int) - 1)) < (s3.len : Int))) ∧
            ∃ x38 : Int, ((((s3.len : Int) : Int) == 0) = false → W4.cell? (q37.add (((IntKind.wrap .i64 ((s3.len : Int) - 1)) : Int).toNat * 1)) = some (.int .i64 x38)) ∧
            Br ((((s3.len : Int) : Int) == 0) || ((x38 : Int) != 4))
              (R (.returned (.bool false)) W4)
              (∃ q44 : Addr, (s3.a = some q44 ∧ (0 : Int) ≤ (IntKind.wrap .i64 ((s3.len : Int) - 1)) ∧ (IntKind.wrap .i64 ((s3.len : Int) - 1)) < (s3.len : Int)) ∧
              stC W4 (q44.add (((IntKind.wrap .i64 ((s3.len : Int) - 1)) : Int).toNat * 1)) [(.int .i64 5)] 0 fun W7 =>
              L s3 (IntKind.wrap .i64 (x9 + 1)) W7))
            (Br ((x17 : Int) == 11)
              (Br (((s3.len : Int) : Int) == 0)
                (R (.returned (.bool ((x9 : Int) == (IntKind.wrap .i64 ((s0.len : Int) - 1))))) W4)
                (((0 : Int) ≤ (IntKind.wrap .i64 ((s3.len : Int) - 1)) ∧ (IntKind.wrap .i64 ((s3.len : Int) - 1)) ≤ (s3.cap : Int)) ∧
                L ⟨(if s3.cap = 0 then s3.a else Option.map (fun a : Addr => a.add (0 * 1)) s3.a), (((IntKind.wrap .i64 ((s3.len : Int) - 1)) : Int).toNat - 0), (s3.cap - 0)⟩ (IntKind.wrap .i64 (x9 + 1)) W4))
              (L s3 (IntKind.wrap .i64 (x9 + 1)) W4)))) → J b18 W4) →
      Br ((x17 : Int) == 2)
        (J ((x17 : Int) == 2) W3)
        (Br ((x17 : Int) == 3)
          (J ((x17 : Int) == 3) W3)
          (J ((x17 : Int) == 4) W3)))
      (R (.returned (.bool false)) W1)) → L s3 x9 W1) →
  L ⟨none, 0, 0⟩ 0 W
theorem of_expr_closed (s0 : Sl) (W : World) (R : Ending → World → Prop) (h : V_expr_closed s0 W R) : Calls Tryd.prog 73 #[s0.v] W R :=
  calls_of_vcF Tryd.mix Tryd.func73 (an := (.seq .nil (.seq .nil (.seq (.seq .nil (.blk (.lp [(3, .sl), (9, .int .i64)] [2, 4, 5, 6, 10, 11, 12, 13, 14, 15, 16, 17, 18, 19, 20, 21, 22, 23, 24, 25, 26, 27, 28, 29, 30, 31, 32, 33, 34, 35, 36, 37, 38, 39, 40, 41, 42, 43, 44, 45, 46, 47, 48, 49, 50, 51, 52, 53, 54, 55, 56, 57, 58] (.seq .nil (.seq (.cond .nil .nil) (.seq (.blk (.seq .nil (.seq .nil (.seq .nil (.blk (.jn [(18, .bool)] [19, 20, 21] (.seq .nil (.cond .nil (.seq .nil (.cond .nil .nil)))) (.cond (.seq (.seq .nil (.cond (.seq .nil .nil) .nil)) .nil) (.seq .nil (.cond (.seq (.seq .nil (.cond (.seq .nil .nil) .nil)) .nil) (.seq .nil (.cond (.seq (.seq .nil (.cond (.seq .nil .nil) .nil)) .nil) .nil))))))))))) .nil)))))) (.seq .nil .nil))))) (args := [s0.v]) (Eq.mpr (by kernel_rfl : vcF Tryd.prog Tryd.f73 (.seq .nil (.seq .nil (.seq (.seq .nil (.blk (.lp [(3, .sl), (9, .int .i64)] [2, 4, 5, 6, 10, 11, 12, 13, 14, 15, 16, 17, 18, 19, 20, 21, 22, 23, 24, 25, 26, 27, 28, 29, 30, 31, 32, 33, 34, 35, 36, 37, 38, 39, 40, 41, 42, 43, 44, 45, 46, 47, 48, 49, 50, 51, 52, 53, 54, 55, 56, 57, 58] (.seq .nil (.seq (.cond .nil .nil) (.seq (.blk (.seq .nil (.seq .nil (.seq .nil (.blk (.jn [(18, .bool)] [19, 20, 21] (.seq .nil (.cond .nil (.seq .nil (.cond .nil .nil)))) (.cond (.seq (.seq .nil (.cond (.seq .nil .nil) .nil)) .nil) (.seq .nil (.cond (.seq (.seq .nil (.cond (.seq .nil .nil) .nil)) .nil) (.seq .nil (.cond (.seq (.seq .nil (.cond (.seq .nil .nil) .nil)) .nil) .nil))))))))))) .nil)))))) (.seq .nil .nil)))) [s0.v] W R = V_expr_closed s0 W R) h)

/-- plait/expr.put -/
def V_expr_put (x0_0 : Int) (x0_1 : Int) (x0_2 : Int) (x0_3 : Int) (x0_4 : Int) (s0_5 : Sl) (W : World) (R : Ending → World → Prop) : Prop :=
  Na W #[(.int .i64 x0_0), (.int .i64 x0_1), (.int .i64 x0_2), (.int .u64 x0_3), (.int .u64 x0_4), s0_5.v] 40 fun q1 W1 =>
  ∃ x12 : Int, W1.cell? (q1.add 0) = some (.int .i64 x12) ∧
  CallV Tryd.prog 63 #[(.int .i64 x12)] W1 fun v W2 => ∃ x13_0_0 : Int, ∃ x13_0_1 : Int, ∃ b13_0_2 : Bool, ∃ s13_0_3 : Sl, ∃ s13_0_4 : Sl, ∃ b13_1 : Bool, v = (.tuple #[(.agg #[(.int .i64 x13_0_0), (.int .i64 x13_0_1), (.bool b13_0_2), s13_0_3.v, s13_0_4.v]), (.bool b13_1)]) ∧
  Na W2 #[(.int .i64 0), (.int .i64 0), (.bool false), (.slice none 0 0), (.slice none 0 0)] 131 fun q4 W3 =>
  stC W3 q4 [(.int .i64 x13_0_0), (.int .i64 x13_0_1), (.bool b13_0_2), s13_0_3.v, s13_0_4.v] 0 fun W4 =>
  ∀ J : World → Prop, (∀ W5, (
    ∃ x26 : Int, W5.cell? (q1.add 0) = some (.int .i64 x26) ∧
    Na W5 #[(.int .u8 (IntKind.wrap .u8 x26))] 5 fun q28 W6 =>
    ∀ J_1 : Sl → World → Prop, (∀ (s6 : Sl) W7, (
      ∃ x41 : Int, W7.cell? (q1.add 1) = some (.int .i64 x41) ∧
      Na W7 #[(.int .u64 (IntKind.wrap .u64 x41))] 38 fun q43 W8 =>
      CallV Tryd.prog 58 #[(.slice (some q43) 1 1)] W8 fun v W9 => ∃ s44 : Sl, v = s44.v ∧
      ∃ x46 : Int, W9.cell? (q4.add 0) = some (.int .i64 x46) ∧
      Br ((x46 : Int) == 1)
        (R (.returned (.tuple #[s6.v, (.bool true)])) W9)
        (Br ((x46 : Int) == 2)
          (∃ x54 : Int, W9.cell? (q1.add 1) = some (.int .i64 x54) ∧
          Br ((x54 : Int) == (-64))
            (Br ((x54 : Int) == (-64))
              (∃ x67 : Int, W9.cell? (q1.add 1) = some (.int .i64 x67) ∧
              Na W9 #[(.int .u8 (IntKind.wrap .u8 (IntKind.wrap .i64 (x67 + 128))))] 5 fun q70 W10 =>
              RunV Tryd.prog (Builtin.append_ #[59, 59] 59 #[s6.v, (.slice (some q70) 1 1)]) W10 fun v W11 => ∃ s71 : Sl, v = s71.v ∧
              R (.returned (.tuple #[s71.v, (.bool true)])) W11)
              (Dw W9 fun W12 =>
              ∃ S : World → Prop, S W12 ∧
              ∃ x74 : Int, (∀ w, S w → w.cell? (q1.add 1) = some (.int .i64 x74)) ∧
              ∃ x79 : Int, (∀ w, S w → w.cell? (q1.add 1) = some (.int .i64 x79)) ∧
              Na W12 #[(.int .i64 x74)] 2 fun q75 W13 =>
              S W13 ∧
              CallV Tryd.prog 84 #[(.slice (some q75) 1 1)] W13 fun v W14 => ∃ s76 : Sl, v = s76.v ∧
              S W14 ∧
              RunV Tryd.prog (Builtin.append_ #[59, 59] 59 #[s6.v, s76.v]) W14 fun v W15 => ∃ s77 : Sl, v = s77.v ∧
              S W15 ∧
              CallV Tryd.prog 85 #[(.int .i64 x79)] W15 fun v W16 => ∃ b80 : Bool, v = (.bool b80) ∧
              S W16 ∧
              R (.returned (.tuple #[s77.v, (.bool b80)])) W16))
            (∃ x57 : Int, W9.cell? (q1.add 1) = some (.int .i64 x57) ∧
            Br ((x57 : Int) == (-1))
              (Br ((x57 : Int) == (-1))
                (∃ x67_1 : Int, W9.cell? (q1.add 1) = some (.int .i64 x67_1) ∧
                Na W9 #[(.int .u8 (IntKind.wrap .u8 (IntKind.wrap .i64 (x67_1 + 128))))] 5 fun q70_1 W17 =>
                RunV Tryd.prog (Builtin.append_ #[59, 59] 59 #[s6.v, (.slice (some q70_1) 1 1)]) W17 fun v W18 => ∃ s71_1 : Sl, v = s71_1.v ∧
                R (.returned (.tuple #[s71_1.v, (.bool true)])) W18)
                (Dw W9 fun W19 =>
                ∃ S_1 : World → Prop, S_1 W19 ∧
                ∃ x74_1 : Int, (∀ w, S_1 w → w.cell? (q1.add 1) = some (.int .i64 x74_1)) ∧
                ∃ x79_1 : Int, (∀ w, S_1 w → w.cell? (q1.add 1) = some (.int .i64 x79_1)) ∧
                Na W19 #[(.int .i64 x74_1)] 2 fun q75_1 W20 =>
                S_1 W20 ∧
                CallV Tryd.prog 84 #[(.slice (some q75_1) 1 1)] W20 fun v W21 => ∃ s76_1 : Sl, v = s76_1.v ∧
                S_1 W21 ∧
                RunV Tryd.prog (Builtin.append_ #[59, 59] 59 #[s6.v, s76_1.v]) W21 fun v W22 => ∃ s77_1 : Sl, v = s77_1.v ∧
                S_1 W22 ∧
                CallV Tryd.prog 85 #[(.int .i64 x79_1)] W22 fun v W23 => ∃ b80_1 : Bool, v = (.bool b80_1) ∧
                S_1 W23 ∧
                R (.returned (.tuple #[s77_1.v, (.bool b80_1)])) W23))
              (∃ x60 : Int, W9.cell? (q1.add 1) = some (.int .i64 x60) ∧
              Br ((x60 : Int) == (-2))
                (Br ((x60 : Int) == (-2))
                  (∃ x67_2 : Int, W9.cell? (q1.add 1) = some (.int .i64 x67_2) ∧
                  Na W9 #[(.int .u8 (IntKind.wrap .u8 (IntKind.wrap .i64 (x67_2 + 128))))] 5 fun q70_2 W24 =>
                  RunV Tryd.prog (Builtin.append_ #[59, 59] 59 #[s6.v, (.slice (some q70_2) 1 1)]) W24 fun v W25 => ∃ s71_2 : Sl, v = s71_2.v ∧
                  R (.returned (.tuple #[s71_2.v, (.bool true)])) W25)
                  (Dw W9 fun W26 =>
                  ∃ S_2 : World → Prop, S_2 W26 ∧
                  ∃ x74_2 : Int, (∀ w, S_2 w → w.cell? (q1.add 1) = some (.int .i64 x74_2)) ∧
                  ∃ x79_2 : Int, (∀ w, S_2 w → w.cell? (q1.add 1) = some (.int .i64 x79_2)) ∧
                  Na W26 #[(.int .i64 x74_2)] 2 fun q75_2 W27 =>
                  S_2 W27 ∧
                  CallV Tryd.prog 84 #[(.slice (some q75_2) 1 1)] W27 fun v W28 => ∃ s76_2 : Sl, v = s76_2.v ∧
                  S_2 W28 ∧
                  RunV Tryd.prog (Builtin.append_ #[59, 59] 59 #[s6.v, s76_2.v]) W28 fun v W29 => ∃ s77_2 : Sl, v = s77_2.v ∧
                  S_2 W29 ∧
                  CallV Tryd.prog 85 #[(.int .i64 x79_2)] W29 fun v W30 => ∃ b80_2 : Bool, v = (.bool b80_2) ∧
                  S_2 W30 ∧
                  R (.returned (.tuple #[s77_2.v, (.bool b80_2)])) W30))
                (∃ x63 : Int, W9.cell? (q1.add 1) = some (.int .i64 x63) ∧
                Br ((x63 : Int) == (-5))
                  (∃ x67_3 : Int, W9.cell? (q1.add 1) = some (.int .i64 x67_3) ∧
                  Na W9 #[(.int .u8 (IntKind.wrap .u8 (IntKind.wrap .i64 (x67_3 + 128))))] 5 fun q70_3 W31 =>
                  RunV Tryd.prog (Builtin.append_ #[59, 59] 59 #[s6.v, (.slice (some q70_3) 1 1)]) W31 fun v W32 => ∃ s71_3 : Sl, v = s71_3.v ∧
                  R (.returned (.tuple #[s71_3.v, (.bool true)])) W32)
                  (Dw W9 fun W33 =>
                  ∃ S_3 : World → Prop, S_3 W33 ∧
                  ∃ x74_3 : Int, (∀ w, S_3 w → w.cell? (q1.add 1) = some (.int .i64 x74_3)) ∧
                  ∃ x79_3 : Int, (∀ w, S_3 w → w.cell? (q1.add 1) = some (.int .i64 x79_3)) ∧
                  Na W33 #[(.int .i64 x74_3)] 2 fun q75_3 W34 =>
                  S_3 W34 ∧
                  CallV Tryd.prog 84 #[(.slice (some q75_3) 1 1)] W34 fun v W35 => ∃ s76_3 : Sl, v = s76_3.v ∧
                  S_3 W35 ∧
                  RunV Tryd.prog (Builtin.append_ #[59, 59] 59 #[s6.v, s76_3.v]) W35 fun v W36 => ∃ s77_3 : Sl, v = s77_3.v ∧
                  S_3 W36 ∧
                  CallV Tryd.prog 85 #[(.int .i64 x79_3)] W36 fun v W37 => ∃ b80_3 : Bool, v = (.bool b80_3) ∧
                  S_3 W37 ∧
                  R (.returned (.tuple #[s77_3.v, (.bool b80_3)])) W37)))))
          (∀ J_2 : Bool → World → Prop, (∀ (b81 : Bool) W38, (
            Br b81
              (Dw W38 fun W39 =>
              ∃ S_4 : World → Prop, S_4 W39 ∧
              ∃ x88 : Int, (∀ w, S_4 w → w.cell? (q1.add 1) = some (.int .i64 x88)) ∧
              RunV Tryd.prog (Builtin.append_ #[59, 59] 59 #[s6.v, s44.v]) W39 fun v W40 => ∃ s86 : Sl, v = s86.v ∧
              S_4 W40 ∧
              CallV Tryd.prog 85 #[(.int .i64 x88)] W40 fun v W41 => ∃ b89 : Bool, v = (.bool b89) ∧
              R (.returned (.tuple #[s86.v, (.bool b89)])) W41)
              (Br ((x46 : Int) == 4)
                (∃ s94 : Sl, W38.cell? (q1.add 5) = some s94.v ∧
                Na W38 #[(.int .u64 (IntKind.wrap .u64 (s94.len : Int)))] 38 fun q97 W42 =>
                CallV Tryd.prog 58 #[(.slice (some q97) 1 1)] W42 fun v W43 => ∃ s98 : Sl, v = s98.v ∧
                RunV Tryd.prog (Builtin.append_ #[59, 59] 59 #[s6.v, s98.v]) W43 fun v W44 => ∃ s99 : Sl, v = s99.v ∧
                ∃ s101 : Sl, W44.cell? (q1.add 5) = some s101.v ∧
                ∀ L : Bool → Sl → Int → World → Prop, (∀ (b5 : Bool) (s6_1 : Sl) (x103 : Int) W45, (
                  Br (decide ((x103 : Int) < (s101.len : Int)))
                    (∃ q105 : Addr, (s101.a = some q105 ∧ (0 : Int) ≤ x103 ∧ x103 < (s101.len : Int)) ∧
                    ∃ x106 : Int, W45.cell? (q105.add ((x103 : Int).toNat * 1)) = some (.int .i64 x106) ∧
                    Na W45 #[(.int .u64 (IntKind.wrap .u64 x106))] 38 fun q110 W46 =>
                    CallV Tryd.prog 58 #[(.slice (some q110) 1 1)] W46 fun v W47 => ∃ s111 : Sl, v = s111.v ∧
                    RunV Tryd.prog (Builtin.append_ #[59, 59] 59 #[s6_1.v, s111.v]) W47 fun v W48 => ∃ s112 : Sl, v = s112.v ∧
                    (b5 = true →
                      CallV Tryd.prog 85 #[(.int .i64 x106)] W48 fun v W49 => ∃ b116 : Bool, v = (.bool b116) ∧
                      L b116 s112 (IntKind.wrap .i64 (x103 + 1)) W49) ∧
                    (b5 = !true →
                      L false s112 (IntKind.wrap .i64 (x103 + 1)) W48))
                    (RunV Tryd.prog (Builtin.append_ #[59, 59] 59 #[s6_1.v, s44.v]) W45 fun v W50 => ∃ s121 : Sl, v = s121.v ∧
                    ∃ x125 : Int, (b5 = true → W50.cell? (q1.add 1) = some (.int .i64 x125)) ∧
                    (b5 = true →
                      CallV Tryd.prog 85 #[(.int .i64 x125)] W50 fun v W51 => ∃ b126 : Bool, v = (.bool b126) ∧
                      R (.returned (.tuple #[s121.v, (.bool b126)])) W51) ∧
                    (b5 = !true →
                      R (.returned (.tuple #[s121.v, (.bool false)])) W50))) → L b5 s6_1 x103 W45) →
                L b13_1 s99 0 W44)
                (∀ J_3 : Bool → World → Prop, (∀ (b128 : Bool) W52, (
                  Br b128
                    (Dw W52 fun W53 =>
                    ∃ S_5 : World → Prop, S_5 W53 ∧
                    ∃ x135 : Int, (∀ w, S_5 w → w.cell? (q1.add 2) = some (.int .i64 x135)) ∧
                    ∃ x141 : Int, (∀ w, S_5 w → w.cell? (q1.add 1) = some (.int .i64 x141)) ∧
                    (RunV Tryd.prog (Builtin.append_ #[59, 59] 59 #[s6.v, s44.v]) W53 fun v W54 => ∃ s133 : Sl, v = s133.v ∧
                    S_5 W54 ∧
                    Na W54 #[(.int .u64 (IntKind.wrap .u64 x135))] 38 fun q137 W55 =>
                    S_5 W55 ∧
                    CallV Tryd.prog 58 #[(.slice (some q137) 1 1)] W55 fun v W56 => ∃ s138 : Sl, v = s138.v ∧
                    S_5 W56 ∧
                    RunV Tryd.prog (Builtin.append_ #[59, 59] 59 #[s133.v, s138.v]) W56 fun v W57 => ∃ s139 : Sl, v = s139.v ∧
                    S_5 W57 ∧
                    CallV Tryd.prog 85 #[(.int .i64 x141)] W57 fun v W58 => ∃ b142 : Bool, v = (.bool b142) ∧
                    S_5 W58 ∧
                    ∃ x145 : Int, (b142 = true → (∀ w, S_5 w → w.cell? (q1.add 2) = some (.int .i64 x145))) ∧
                    (b142 = true →
                      CallV Tryd.prog 85 #[(.int .i64 x145)] W58 fun v W59 => ∃ b146 : Bool, v = (.bool b146) ∧
                      S_5 W59 ∧
                    R (.returned (.tuple #[s139.v, (.bool b146)])) W59) ∧
                    (b142 = !true →
                      S_5 W58 ∧
                    R (.returned (.tuple #[s139.v, (.bool false)])) W58)) ∧
                    (Na W53 #[(.int .u64 (IntKind.wrap .u64 x135))] 38 fun q137_1 W60 =>
                    S_5 W60 ∧
                    RunV Tryd.prog (Builtin.append_ #[59, 59] 59 #[s6.v, s44.v]) W60 fun v W61 => ∃ s133_1 : Sl, v = s133_1.v ∧
                    S_5 W61 ∧
                    CallV Tryd.prog 58 #[(.slice (some q137_1) 1 1)] W61 fun v W62 => ∃ s138_1 : Sl, v = s138_1.v ∧
                    S_5 W62 ∧
                    RunV Tryd.prog (Builtin.append_ #[59, 59] 59 #[s133_1.v, s138_1.v]) W62 fun v W63 => ∃ s139_1 : Sl, v = s139_1.v ∧
                    S_5 W63 ∧
                    CallV Tryd.prog 85 #[(.int .i64 x141)] W63 fun v W64 => ∃ b142_1 : Bool, v = (.bool b142_1) ∧
                    S_5 W64 ∧
                    ∃ x145_1 : Int, (b142_1 = true → (∀ w, S_5 w → w.cell? (q1.add 2) = some (.int .i64 x145_1))) ∧
                    (b142_1 = true →
                      CallV Tryd.prog 85 #[(.int .i64 x145_1)] W64 fun v W65 => ∃ b146_1 : Bool, v = (.bool b146_1) ∧
                      S_5 W65 ∧
                    R (.returned (.tuple #[s139_1.v, (.bool b146_1)])) W65) ∧
                    (b142_1 = !true →
                      S_5 W64 ∧
                    R (.returned (.tuple #[s139_1.v, (.bool false)])) W64)))
                    (Br ((x46 : Int) == 8)
                      (∀ J_4 : Sl → World → Prop, (∀ (s6_2 : Sl) W66, (
                        Dw W66 fun W67 =>
                        ∃ S_6 : World → Prop, S_6 W67 ∧
                        ∃ x161 : Int, (∀ w, S_6 w → w.cell? (q1.add 3) = some (.int .u64 x161)) ∧
                        ∃ x166 : Int, (∀ w, S_6 w → w.cell? (q1.add 1) = some (.int .i64 x166)) ∧
                        Na W67 #[(.int .u8 (IntKind.wrap .u8 x161))] 5 fun q163 W68 =>
                        S_6 W68 ∧
                        RunV Tryd.prog (Builtin.append_ #[59, 59] 59 #[s6_2.v, (.slice (some q163) 1 1)]) W68 fun v W69 => ∃ s164 : Sl, v = s164.v ∧
                        S_6 W69 ∧
                        CallV Tryd.prog 85 #[(.int .i64 x166)] W69 fun v W70 => ∃ b167 : Bool, v = (.bool b167) ∧
                        S_6 W70 ∧
                        ∃ x170 : Int, (b167 = true → (∀ w, S_6 w → w.cell? (q1.add 2) = some (.int .i64 x170))) ∧
                        (b167 = true →
                          CallV Tryd.prog 85 #[(.int .i64 x170)] W70 fun v W71 => ∃ b171 : Bool, v = (.bool b171) ∧
                          S_6 W71 ∧
                        ∃ x175 : Int, (b171 = true → (∀ w, S_6 w → w.cell? (q1.add 3) = some (.int .u64 x175))) ∧
                        R (.returned (.tuple #[s164.v, (.bool (b171 && (decide ((x175 : Int) < 256))))])) W71) ∧
                        (b167 = !true →
                          S_6 W70 ∧
                        ∃ x175_1 : Int, (false = true → (∀ w, S_6 w → w.cell? (q1.add 3) = some (.int .u64 x175_1))) ∧
                        R (.returned (.tuple #[s164.v, (.bool (false && (decide ((x175_1 : Int) < 256))))])) W70)) → J_4 s6_2 W66) →
                      Dw W52 fun W72 =>
                      ∃ S_7 : World → Prop, S_7 W72 ∧
                      ∃ x154 : Int, (∀ w, S_7 w → w.cell? (q1.add 2) = some (.int .i64 x154)) ∧
                      (RunV Tryd.prog (Builtin.append_ #[59, 59] 59 #[s6.v, s44.v]) W72 fun v W73 => ∃ s152 : Sl, v = s152.v ∧
                      S_7 W73 ∧
                      Na W73 #[(.int .u64 (IntKind.wrap .u64 x154))] 38 fun q156 W74 =>
                      S_7 W74 ∧
                      CallV Tryd.prog 58 #[(.slice (some q156) 1 1)] W74 fun v W75 => ∃ s157 : Sl, v = s157.v ∧
                      S_7 W75 ∧
                      RunV Tryd.prog (Builtin.append_ #[59, 59] 59 #[s152.v, s157.v]) W75 fun v W76 => ∃ s158 : Sl, v = s158.v ∧
                      S_7 W76 ∧
                      J_4 s158 W76) ∧
                      (Na W72 #[(.int .u64 (IntKind.wrap .u64 x154))] 38 fun q156_1 W77 =>
                      S_7 W77 ∧
                      RunV Tryd.prog (Builtin.append_ #[59, 59] 59 #[s6.v, s44.v]) W77 fun v W78 => ∃ s152_1 : Sl, v = s152_1.v ∧
                      S_7 W78 ∧
                      CallV Tryd.prog 58 #[(.slice (some q156_1) 1 1)] W78 fun v W79 => ∃ s157_1 : Sl, v = s157_1.v ∧
                      S_7 W79 ∧
                      RunV Tryd.prog (Builtin.append_ #[59, 59] 59 #[s152_1.v, s157_1.v]) W79 fun v W80 => ∃ s158_1 : Sl, v = s158_1.v ∧
                      S_7 W80 ∧
                      J_4 s158_1 W80))
                      (∃ x179_0 : Int, W52.cell? (q1.add 0) = some (.int .i64 x179_0) ∧
                      ∃ x179_1 : Int, W52.cell? (q1.add 1) = some (.int .i64 x179_1) ∧
                      ∃ x179_2 : Int, W52.cell? (q1.add 2) = some (.int .i64 x179_2) ∧
                      ∃ x179_3 : Int, W52.cell? (q1.add 3) = some (.int .u64 x179_3) ∧
                      ∃ x179_4 : Int, W52.cell? (q1.add 4) = some (.int .u64 x179_4) ∧
                      ∃ s179_5 : Sl, W52.cell? (q1.add 5) = some s179_5.v ∧
                      ∃ x181 : Int, W52.cell? (q4.add 0) = some (.int .i64 x181) ∧
                      CallV Tryd.prog 86 #[s6.v, (.agg #[(.int .i64 x179_0), (.int .i64 x179_1), (.int .i64 x179_2), (.int .u64 x179_3), (.int .u64 x179_4), s179_5.v]), (.int .i64 x181)] W52 fun v W81 => ∃ s182_0 : Sl, ∃ b182_1 : Bool, v = (.tuple #[s182_0.v, (.bool b182_1)]) ∧
                      R (.returned (.tuple #[s182_0.v, (.bool b182_1)])) W81))) → J_3 b128 W52) →
                Br ((x46 : Int) == 6)
                  (J_3 ((x46 : Int) == 6) W38)
                  (J_3 ((x46 : Int) == 7) W38)))) → J_2 b81 W38) →
          Br ((x46 : Int) == 3)
            (J_2 ((x46 : Int) == 3) W9)
            (J_2 ((x46 : Int) == 5) W9)))) → J_1 s6 W7) →
    ∃ x30 : Int, W6.cell? (q1.add 0) = some (.int .i64 x30) ∧
    Br (decide ((x30 : Int) ≥ 64768))
      (Na W6 #[(.int .u8 253)] 5 fun q32 W82 =>
      ∃ x34 : Int, W82.cell? (q1.add 0) = some (.int .i64 x34) ∧
      Na W82 #[(.int .u64 (IntKind.wrap .u64 (IntKind.wrap .i64 (x34 - 64768))))] 38 fun q37 W83 =>
      CallV Tryd.prog 58 #[(.slice (some q37) 1 1)] W83 fun v W84 => ∃ s38 : Sl, v = s38.v ∧
      RunV Tryd.prog (Builtin.append_ #[59, 59] 59 #[(.slice (some q32) 1 1), s38.v]) W84 fun v W85 => ∃ s39 : Sl, v = s39.v ∧
      J_1 s39 W85)
      (J_1 ⟨(some q28), 1, 1⟩ W6)) → J W5) →
  ∀ J_5 : Bool → World → Prop, (∀ (b24 : Bool) W86, (
    Br b24
      (R (.returned (.tuple #[(.slice none 0 0), (.bool false)])) W86)
      (J W86)) → J_5 b24 W86) →
  ∃ x19_0 : Int, ((!b13_1) = false → W4.cell? (q1.add 0) = some (.int .i64 x19_0)) ∧
  ∃ x19_1 : Int, ((!b13_1) = false → W4.cell? (q1.add 1) = some (.int .i64 x19_1)) ∧
  ∃ x19_2 : Int, ((!b13_1) = false → W4.cell? (q1.add 2) = some (.int .i64 x19_2)) ∧
  ∃ x19_3 : Int, ((!b13_1) = false → W4.cell? (q1.add 3) = some (.int .u64 x19_3)) ∧
  ∃ x19_4 : Int, ((!b13_1) = false → W4.cell? (q1.add 4) = some (.int .u64 x19_4)) ∧
  ∃ s19_5 : Sl, ((!b13_1) = false → W4.cell? (q1.add 5) = some s19_5.v) ∧
  ∃ x21 : Int, ((!b13_1) = false → W4.cell? (q4.add 0) = some (.int .i64 x21)) ∧
  ((!b13_1) = false →
    CallV Tryd.prog 83 #[(.agg #[(.int .i64 x19_0), (.int .i64 x19_1), (.int .i64 x19_2), (.int .u64 x19_3), (.int .u64 x19_4), s19_5.v]), (.int .i64 x21)] W4 fun v W87 => ∃ b22 : Bool, v = (.bool b22) ∧
    J_5 (!b22) W87) ∧
  ((!b13_1) = !false →
    J_5 true W4)
theorem of_expr_put (x0_0 : Int) (x0_1 : Int) (x0_2 : Int) (x0_3 : Int) (x0_4 : Int) (s0_5 : Sl) (W : World) (R : Ending → World → Prop) (h : V_expr_put x0_0 x0_1 x0_2 x0_3 x0_4 s0_5 W R) : Calls Tryd.prog 74 #[(.agg #[(.int .i64 x0_0), (.int .i64 x0_1), (.int .i64 x0_2), (.int .u64 x0_3), (.int .u64 x0_4), s0_5.v])] W R :=
  calls_of_vcF Tryd.mix Tryd.func74 (an := (.seq .nil (.seq .nil (.jn [] [2, 3, 16, 17, 18, 19, 20, 21, 22, 23, 24] (.jn [(24, .bool)] [16, 17, 18, 19, 20, 21, 22, 23] .nil (.cond (.seq .nil .nil) .nil)) (.seq .nil (.jn [(6, .sl)] [29, 30, 31, 32, 33, 34, 35, 36, 37, 38, 39] (.seq .nil (.cond .nil .nil)) (.seq .nil (.seq (.seq .nil (.blk (.seq .nil (.cond (.seq .nil .nil) (.seq .nil (.cond (.seq (.blk (.seq (.seq .nil (.cond .nil (.seq .nil (.cond .nil (.seq .nil (.cond .nil .nil)))))) (.cond (.seq .nil .nil) .nil))) (.seq .nil .nil)) (.jn [(81, .bool)] [82, 83] (.seq .nil (.cond .nil .nil)) (.cond (.seq .nil .nil) (.seq .nil (.cond (.seq .nil (.seq (.seq .nil (.blk (.lp [(5, .bool), (6, .sl), (103, .int .i64)] [9, 104, 105, 106, 107, 108, 109, 110, 111, 112, 113, 114, 115, 116, 117, 118] (.seq .nil (.seq (.cond .nil .nil) (.seq (.blk (.seq .nil (.seq .nil .nil))) .nil)))))) (.seq .nil .nil))) (.jn [(128, .bool)] [129, 130] (.seq .nil (.cond .nil .nil)) (.cond (.seq .nil .nil) (.seq .nil (.cond (.jn [(6, .sl)] [150, 151, 152, 153, 154, 155, 156, 157, 158] .nil (.seq .nil .nil)) .nil)))))))))))))) (.seq .nil .nil))))))))) (args := [(.agg #[(.int .i64 x0_0), (.int .i64 x0_1), (.int .i64 x0_2), (.int .u64 x0_3), (.int .u64 x0_4), s0_5.v])]) (Eq.mpr (by kernel_rfl : vcF Tryd.prog Tryd.f74 (.seq .nil (.seq .nil (.jn [] [2, 3, 16, 17, 18, 19, 20, 21, 22, 23, 24] (.jn [(24, .bool)] [16, 17, 18, 19, 20, 21, 22, 23] .nil (.cond (.seq .nil .nil) .nil)) (.seq .nil (.jn [(6, .sl)] [29, 30, 31, 32, 33, 34, 35, 36, 37, 38, 39] (.seq .nil (.cond .nil .nil)) (.seq .nil (.seq (.seq .nil (.blk (.seq .nil (.cond (.seq .nil .nil) (.seq .nil (.cond (.seq (.blk (.seq (.seq .nil (.cond .nil (.seq .nil (.cond .nil (.seq .nil (.cond .nil .nil)))))) (.cond (.seq .nil .nil) .nil))) (.seq .nil .nil)) (.jn [(81, .bool)] [82, 83] (.seq .nil (.cond .nil .nil)) (.cond (.seq .nil .nil) (.seq .nil (.cond (.seq .nil (.seq (.seq .nil (.blk (.lp [(5, .bool), (6, .sl), (103, .int .i64)] [9, 104, 105, 106, 107, 108, 109, 110, 111, 112, 113, 114, 115, 116, 117, 118] (.seq .nil (.seq (.cond .nil .nil) (.seq (.blk (.seq .nil (.seq .nil .nil))) .nil)))))) (.seq .nil .nil))) (.jn [(128, .bool)] [129, 130] (.seq .nil (.cond .nil .nil)) (.cond (.seq .nil .nil) (.seq .nil (.cond (.jn [(6, .sl)] [150, 151, 152, 153, 154, 155, 156, 157, 158] .nil (.seq .nil .nil)) .nil)))))))))))))) (.seq .nil .nil)))))))) [(.agg #[(.int .i64 x0_0), (.int .i64 x0_1), (.int .i64 x0_2), (.int .u64 x0_3), (.int .u64 x0_4), s0_5.v])] W R = V_expr_put x0_0 x0_1 x0_2 x0_3 x0_4 s0_5 W R) h)

/-- plait/instr.scalars -/
def V_instr_scalars  (W : World) (R : Ending → World → Prop) : Prop :=
  Na W #[(.int .i64 0), (.int .i64 0), (.int .i64 1), (.int .i64 0), (.string ({ data := #[] } : ByteArray)), (.int .i64 1), (.int .i64 1), (.int .i64 1), (.int .i64 0), (.string ({ data := #[58] } : ByteArray)), (.int .i64 2), (.int .i64 4), (.int .i64 2), (.int .i64 0), (.string ({ data := #[] } : ByteArray)), (.int .i64 5), (.int .i64 5), (.int .i64 1), (.int .i64 0), (.string ({ data := #[] } : ByteArray)), (.int .i64 11), (.int .i64 11), (.int .i64 1), (.int .i64 0), (.string ({ data := #[] } : ByteArray)), (.int .i64 12), (.int .i64 13), (.int .i64 3), (.int .i64 0), (.string ({ data := #[] } : ByteArray)), (.int .i64 14), (.int .i64 14), (.int .i64 4), (.int .i64 0), (.string ({ data := #[] } : ByteArray)), (.int .i64 15), (.int .i64 15), (.int .i64 1), (.int .i64 0), (.string ({ data := #[] } : ByteArray)), (.int .i64 16), (.int .i64 16), (.int .i64 5), (.int .i64 0), (.string ({ data := #[] } : ByteArray)), (.int .i64 17), (.int .i64 17), (.int .i64 6), (.int .i64 0), (.string ({ data := #[] } : ByteArray)), (.int .i64 26), (.int .i64 27), (.int .i64 1), (.int .i64 0), (.string ({ data := #[] } : ByteArray)), (.int .i64 32), (.int .i64 36), (.int .i64 5), (.int .i64 0), (.string ({ data := #[] } : ByteArray)), (.int .i64 40), (.int .i64 40), (.int .i64 7), (.int .i64 2), (.string ({ data := #[105, 58, 105] } : ByteArray)), (.int .i64 41), (.int .i64 41), (.int .i64 7), (.int .i64 3), (.string ({ data := #[105, 58, 108] } : ByteArray)), (.int .i64 44), (.int .i64 45), (.int .i64 7), (.int .i64 0), (.string ({ data := #[105, 58, 105] } : ByteArray)), (.int .i64 46), (.int .i64 47), (.int .i64 7), (.int .i64 1), (.string ({ data := #[105, 58, 105] } : ByteArray)), (.int .i64 48), (.int .i64 49), (.int .i64 7), (.int .i64 0), (.string ({ data := #[105, 58, 108] } : ByteArray)), (.int .i64 50), (.int .i64 51), (.int .i64 7), (.int .i64 1), (.string ({ data := #[105, 58, 108] } : ByteArray)), (.int .i64 52), (.int .i64 53), (.int .i64 7), (.int .i64 2), (.string ({ data := #[105, 58, 108] } : ByteArray)), (.int .i64 54), (.int .i64 54), (.int .i64 7), (.int .i64 2), (.string ({ data := #[105, 105, 58] } : ByteArray)), (.int .i64 55), (.int .i64 55), (.int .i64 7), (.int .i64 3), (.string ({ data := #[105, 108, 58] } : ByteArray)), (.int .i64 58), (.int .i64 58), (.int .i64 7), (.int .i64 0), (.string ({ data := #[105, 105, 58] } : ByteArray)), (.int .i64 59), (.int .i64 59), (.int .i64 7), (.int .i64 1), (.string ({ data := #[105, 105, 58] } : ByteArray)), (.int .i64 60), (.int .i64 60), (.int .i64 7), (.int .i64 0), (.string ({ data := #[105, 108, 58] } : ByteArray)), (.int .i64 61), (.int .i64 61), (.int .i64 7), (.int .i64 1), (.string ({ data := #[105, 108, 58] } : ByteArray)), (.int .i64 62), (.int .i64 62), (.int .i64 7), (.int .i64 2), (.string ({ data := #[105, 108, 58] } : ByteArray)), (.int .i64 63), (.int .i64 63), (.int .i64 14), (.int .i64 0), (.string ({ data := #[58, 105] } : ByteArray)), (.int .i64 64), (.int .i64 64), (.int .i64 14), (.int .i64 0), (.string ({ data := #[105, 58, 105] } : ByteArray)), (.int .i64 65), (.int .i64 65), (.int .i64 9), (.int .i64 0), (.string ({ data := #[58, 105] } : ByteArray)), (.int .i64 66), (.int .i64 66), (.int .i64 10), (.int .i64 0), (.string ({ data := #[58, 108] } : ByteArray)), (.int .i64 69), (.int .i64 69), (.int .i64 1), (.int .i64 0), (.string ({ data := #[105, 58, 105] } : ByteArray)), (.int .i64 70), (.int .i64 79), (.int .i64 1), (.int .i64 0), (.string ({ data := #[105, 105, 58, 105] } : ByteArray)), (.int .i64 80), (.int .i64 80), (.int .i64 1), (.int .i64 0), (.string ({ data := #[108, 58, 105] } : ByteArray)), (.int .i64 81), (.int .i64 90), (.int .i64 1), (.int .i64 0), (.string ({ data := #[108, 108, 58, 105] } : ByteArray)), (.int .i64 103), (.int .i64 105), (.int .i64 1), (.int .i64 0), (.string ({ data := #[105, 58, 105] } : ByteArray)), (.int .i64 106), (.int .i64 120), (.int .i64 1), (.int .i64 0), (.string ({ data := #[105, 105, 58, 105] } : ByteArray)), (.int .i64 121), (.int .i64 123), (.int .i64 1), (.int .i64 0), (.string ({ data := #[108, 58, 108] } : ByteArray)), (.int .i64 124), (.int .i64 138), (.int .i64 1), (.int .i64 0), (.string ({ data := #[108, 108, 58, 108] } : ByteArray)), (.int .i64 167), (.int .i64 167), (.int .i64 1), (.int .i64 0), (.string ({ data := #[108, 58, 105] } : ByteArray)), (.int .i64 172), (.int .i64 173), (.int .i64 1), (.int .i64 0), (.string ({ data := #[105, 58, 108] } : ByteArray)), (.int .i64 192), (.int .i64 193), (.int .i64 1), (.int .i64 0), (.string ({ data := #[105, 58, 105] } : ByteArray)), (.int .i64 194), (.int .i64 196), (.int .i64 1), (.int .i64 0), (.string ({ data := #[108, 58, 108] } : ByteArray))] 150 fun q43 W1 =>
  R (.returned (.slice (some q43) 42 42)) W1
theorem of_instr_scalars  (W : World) (R : Ending → World → Prop) (h : V_instr_scalars  W R) : Calls Tryd.prog 75 #[] W R :=
  calls_of_vcF Tryd.mix Tryd.func75 (an := (.seq .nil (.seq .nil .nil))) (args := []) (Eq.mpr (by kernel_rfl : vcF Tryd.prog Tryd.f75 (.seq .nil (.seq .nil .nil)) [] W R = V_instr_scalars  W R) h)

/-- plait/instr.vectors -/
def V_instr_vectors  (W : World) (R : Ending → World → Prop) : Prop :=
  Na W #[(.int .i64 64768), (.int .i64 64768), (.int .i64 7), (.int .i64 4), (.string ({ data := #[105, 58, 118] } : ByteArray)), (.int .i64 64769), (.int .i64 64774), (.int .i64 7), (.int .i64 3), (.string ({ data := #[105, 58, 118] } : ByteArray)), (.int .i64 64775), (.int .i64 64775), (.int .i64 7), (.int .i64 0), (.string ({ data := #[105, 58, 118] } : ByteArray)), (.int .i64 64776), (.int .i64 64776), (.int .i64 7), (.int .i64 1), (.string ({ data := #[105, 58, 118] } : ByteArray)), (.int .i64 64777), (.int .i64 64777), (.int .i64 7), (.int .i64 2), (.string ({ data := #[105, 58, 118] } : ByteArray)), (.int .i64 64778), (.int .i64 64778), (.int .i64 7), (.int .i64 3), (.string ({ data := #[105, 58, 118] } : ByteArray)), (.int .i64 64779), (.int .i64 64779), (.int .i64 7), (.int .i64 4), (.string ({ data := #[105, 118, 58] } : ByteArray)), (.int .i64 64780), (.int .i64 64780), (.int .i64 11), (.int .i64 0), (.string ({ data := #[58, 118] } : ByteArray)), (.int .i64 64781), (.int .i64 64781), (.int .i64 12), (.int .i64 0), (.string ({ data := #[118, 118, 58, 118] } : ByteArray)), (.int .i64 64782), (.int .i64 64782), (.int .i64 1), (.int .i64 0), (.string ({ data := #[118, 118, 58, 118] } : ByteArray)), (.int .i64 64783), (.int .i64 64785), (.int .i64 1), (.int .i64 0), (.string ({ data := #[105, 58, 118] } : ByteArray)), (.int .i64 64786), (.int .i64 64786), (.int .i64 1), (.int .i64 0), (.string ({ data := #[108, 58, 118] } : ByteArray)), (.int .i64 64789), (.int .i64 64790), (.int .i64 13), (.int .i64 16), (.string ({ data := #[118, 58, 105] } : ByteArray)), (.int .i64 64791), (.int .i64 64791), (.int .i64 13), (.int .i64 16), (.string ({ data := #[118, 105, 58, 118] } : ByteArray)), (.int .i64 64792), (.int .i64 64793), (.int .i64 13), (.int .i64 8), (.string ({ data := #[118, 58, 105] } : ByteArray)), (.int .i64 64794), (.int .i64 64794), (.int .i64 13), (.int .i64 8), (.string ({ data := #[118, 105, 58, 118] } : ByteArray)), (.int .i64 64795), (.int .i64 64795), (.int .i64 13), (.int .i64 4), (.string ({ data := #[118, 58, 105] } : ByteArray)), (.int .i64 64796), (.int .i64 64796), (.int .i64 13), (.int .i64 4), (.string ({ data := #[118, 105, 58, 118] } : ByteArray)), (.int .i64 64797), (.int .i64 64797), (.int .i64 13), (.int .i64 2), (.string ({ data := #[118, 58, 108] } : ByteArray)), (.int .i64 64798), (.int .i64 64798), (.int .i64 13), (.int .i64 2), (.string ({ data := #[118, 108, 58, 118] } : ByteArray)), (.int .i64 64803), (.int .i64 64832), (.int .i64 1), (.int .i64 0), (.string ({ data := #[118, 118, 58, 118] } : ByteArray)), (.int .i64 64845), (.int .i64 64845), (.int .i64 1), (.int .i64 0), (.string ({ data := #[118, 58, 118] } : ByteArray)), (.int .i64 64846), (.int .i64 64849), (.int .i64 1), (.int .i64 0), (.string ({ data := #[118, 118, 58, 118] } : ByteArray)), (.int .i64 64850), (.int .i64 64850), (.int .i64 1), (.int .i64 0), (.string ({ data := #[118, 118, 118, 58, 118] } : ByteArray)), (.int .i64 64851), (.int .i64 64851), (.int .i64 1), (.int .i64 0), (.string ({ data := #[118, 58, 105] } : ByteArray)), (.int .i64 64852), (.int .i64 64852), (.int .i64 8), (.int .i64 0), (.string ({ data := #[105, 118, 58, 118] } : ByteArray)), (.int .i64 64853), (.int .i64 64853), (.int .i64 8), (.int .i64 1), (.string ({ data := #[105, 118, 58, 118] } : ByteArray)), (.int .i64 64854), (.int .i64 64854), (.int .i64 8), (.int .i64 2), (.string ({ data := #[105, 118, 58, 118] } : ByteArray)), (.int .i64 64855), (.int .i64 64855), (.int .i64 8), (.int .i64 3), (.string ({ data := #[105, 118, 58, 118] } : ByteArray)), (.int .i64 64856), (.int .i64 64856), (.int .i64 8), (.int .i64 0), (.string ({ data := #[105, 118, 58] } : ByteArray)), (.int .i64 64857), (.int .i64 64857), (.int .i64 8), (.int .i64 1), (.string ({ data := #[105, 118, 58] } : ByteArray)), (.int .i64 64858), (.int .i64 64858), (.int .i64 8), (.int .i64 2), (.string ({ data := #[105, 118, 58] } : ByteArray)), (.int .i64 64859), (.int .i64 64859), (.int .i64 8), (.int .i64 3), (.string ({ data := #[105, 118, 58] } : ByteArray)), (.int .i64 64860), (.int .i64 64860), (.int .i64 7), (.int .i64 2), (.string ({ data := #[105, 58, 118] } : ByteArray)), (.int .i64 64861), (.int .i64 64861), (.int .i64 7), (.int .i64 3), (.string ({ data := #[105, 58, 118] } : ByteArray)), (.int .i64 64864), (.int .i64 64866), (.int .i64 1), (.int .i64 0), (.string ({ data := #[118, 58, 118] } : ByteArray)), (.int .i64 64867), (.int .i64 64868), (.int .i64 1), (.int .i64 0), (.string ({ data := #[118, 58, 105] } : ByteArray)), (.int .i64 64869), (.int .i64 64870), (.int .i64 1), (.int .i64 0), (.string ({ data := #[118, 118, 58, 118] } : ByteArray)), (.int .i64 64875), (.int .i64 64877), (.int .i64 1), (.int .i64 0), (.string ({ data := #[118, 105, 58, 118] } : ByteArray)), (.int .i64 64878), (.int .i64 64883), (.int .i64 1), (.int .i64 0), (.string ({ data := #[118, 118, 58, 118] } : ByteArray)), (.int .i64 64886), (.int .i64 64889), (.int .i64 1), (.int .i64 0), (.string ({ data := #[118, 118, 58, 118] } : ByteArray)), (.int .i64 64891), (.int .i64 64891), (.int .i64 1), (.int .i64 0), (.string ({ data := #[118, 118, 58, 118] } : ByteArray)), (.int .i64 64892), (.int .i64 64897), (.int .i64 1), (.int .i64 0), (.string ({ data := #[118, 58, 118] } : ByteArray)), (.int .i64 64898), (.int .i64 64898), (.int .i64 1), (.int .i64 0), (.string ({ data := #[118, 118, 58, 118] } : ByteArray)), (.int .i64 64899), (.int .i64 64900), (.int .i64 1), (.int .i64 0), (.string ({ data := #[118, 58, 105] } : ByteArray)), (.int .i64 64901), (.int .i64 64902), (.int .i64 1), (.int .i64 0), (.string ({ data := #[118, 118, 58, 118] } : ByteArray)), (.int .i64 64903), (.int .i64 64906), (.int .i64 1), (.int .i64 0), (.string ({ data := #[118, 58, 118] } : ByteArray)), (.int .i64 64907), (.int .i64 64909), (.int .i64 1), (.int .i64 0), (.string ({ data := #[118, 105, 58, 118] } : ByteArray)), (.int .i64 64910), (.int .i64 64915), (.int .i64 1), (.int .i64 0), (.string ({ data := #[118, 118, 58, 118] } : ByteArray)), (.int .i64 64917), (.int .i64 64921), (.int .i64 1), (.int .i64 0), (.string ({ data := #[118, 118, 58, 118] } : ByteArray)), (.int .i64 64923), (.int .i64 64927), (.int .i64 1), (.int .i64 0), (.string ({ data := #[118, 118, 58, 118] } : ByteArray)), (.int .i64 64928), (.int .i64 64929), (.int .i64 1), (.int .i64 0), (.string ({ data := #[118, 58, 118] } : ByteArray)), (.int .i64 64931), (.int .i64 64932), (.int .i64 1), (.int .i64 0), (.string ({ data := #[118, 58, 105] } : ByteArray)), (.int .i64 64935), (.int .i64 64938), (.int .i64 1), (.int .i64 0), (.string ({ data := #[118, 58, 118] } : ByteArray)), (.int .i64 64939), (.int .i64 64941), (.int .i64 1), (.int .i64 0), (.string ({ data := #[118, 105, 58, 118] } : ByteArray)), (.int .i64 64942), (.int .i64 64942), (.int .i64 1), (.int .i64 0), (.string ({ data := #[118, 118, 58, 118] } : ByteArray)), (.int .i64 64945), (.int .i64 64945), (.int .i64 1), (.int .i64 0), (.string ({ data := #[118, 118, 58, 118] } : ByteArray)), (.int .i64 64949), (.int .i64 64954), (.int .i64 1), (.int .i64 0), (.string ({ data := #[118, 118, 58, 118] } : ByteArray)), (.int .i64 64956), (.int .i64 64959), (.int .i64 1), (.int .i64 0), (.string ({ data := #[118, 118, 58, 118] } : ByteArray)), (.int .i64 64960), (.int .i64 64961), (.int .i64 1), (.int .i64 0), (.string ({ data := #[118, 58, 118] } : ByteArray)), (.int .i64 64963), (.int .i64 64964), (.int .i64 1), (.int .i64 0), (.string ({ data := #[118, 58, 105] } : ByteArray)), (.int .i64 64967), (.int .i64 64970), (.int .i64 1), (.int .i64 0), (.string ({ data := #[118, 58, 118] } : ByteArray)), (.int .i64 64971), (.int .i64 64973), (.int .i64 1), (.int .i64 0), (.string ({ data := #[118, 105, 58, 118] } : ByteArray)), (.int .i64 64974), (.int .i64 64974), (.int .i64 1), (.int .i64 0), (.string ({ data := #[118, 118, 58, 118] } : ByteArray)), (.int .i64 64977), (.int .i64 64977), (.int .i64 1), (.int .i64 0), (.string ({ data := #[118, 118, 58, 118] } : ByteArray)), (.int .i64 64981), (.int .i64 64991), (.int .i64 1), (.int .i64 0), (.string ({ data := #[118, 118, 58, 118] } : ByteArray))] 150 fun q67 W1 =>
  R (.returned (.slice (some q67) 66 66)) W1
theorem of_instr_vectors  (W : World) (R : Ending → World → Prop) (h : V_instr_vectors  W R) : Calls Tryd.prog 76 #[] W R :=
  calls_of_vcF Tryd.mix Tryd.func76 (an := (.seq .nil (.seq .nil .nil))) (args := []) (Eq.mpr (by kernel_rfl : vcF Tryd.prog Tryd.f76 (.seq .nil (.seq .nil .nil)) [] W R = V_instr_vectors  W R) h)

/-- plait/pair.Join -/
def V_pair_Join (x0_0 : Int) (x0_1 : Int) (W : World) (R : Ending → World → Prop) : Prop :=
  Na W #[(.int .u64 x0_0), (.int .u64 x0_1)] 155 fun q1 W1 =>
  Na W1 #[(.int .u8 0), (.int .u8 0), (.int .u8 0), (.int .u8 0), (.int .u8 0), (.int .u8 0), (.int .u8 0), (.int .u8 0), (.int .u8 0), (.int .u8 0), (.int .u8 0), (.int .u8 0), (.int .u8 0), (.int .u8 0), (.int .u8 0), (.int .u8 0)] 152 fun q2 W2 =>
  Na W2 #[(.int .u8 0), (.int .u8 0), (.int .u8 0), (.int .u8 0), (.int .u8 0), (.int .u8 0), (.int .u8 0), (.int .u8 0), (.int .u8 0), (.int .u8 0), (.int .u8 0), (.int .u8 0), (.int .u8 0), (.int .u8 0), (.int .u8 0), (.int .u8 0)] 152 fun q3 W3 =>
  ∀ L : Int → World → Prop, (∀ (x5 : Int) W4, (
    Br (decide ((x5 : Int) < 8))
      (∃ x10 : Int, W4.cell? (q1.add 0) = some (.int .u64 x10) ∧
      (0 : Int) ≤ (IntKind.wrap .i64 (8 * x5)) ∧
      ((0 : Int) ≤ x5 ∧ x5 < (16 : Int)) ∧
      stC W4 (q3.add ((x5 : Int).toNat * 1)) [(.int .u8 (IntKind.wrap .u8 (Int.fdiv x10 (2 ^ (min ((IntKind.wrap .i64 (8 * x5)) : Int).toNat (IntKind.bits .u64))))))] 0 fun W5 =>
      ∃ x19 : Int, W5.cell? (q1.add 1) = some (.int .u64 x19) ∧
      (0 : Int) ≤ (IntKind.wrap .i64 (8 * x5)) ∧
      ((0 : Int) ≤ (IntKind.wrap .i64 (8 + x5)) ∧ (IntKind.wrap .i64 (8 + x5)) < (16 : Int)) ∧
      stC W5 (q3.add (((IntKind.wrap .i64 (8 + x5)) : Int).toNat * 1)) [(.int .u8 (IntKind.wrap .u8 (Int.fdiv x19 (2 ^ (min ((IntKind.wrap .i64 (8 * x5)) : Int).toNat (IntKind.bits .u64))))))] 0 fun W6 =>
      L (IntKind.wrap .i64 (x5 + 1)) W6)
      (∃ x26_0 : Int, W4.cell? (q3.add 0) = some (.int .u8 x26_0) ∧
      ∃ x26_1 : Int, W4.cell? (q3.add 1) = some (.int .u8 x26_1) ∧
      ∃ x26_2 : Int, W4.cell? (q3.add 2) = some (.int .u8 x26_2) ∧
      ∃ x26_3 : Int, W4.cell? (q3.add 3) = some (.int .u8 x26_3) ∧
      ∃ x26_4 : Int, W4.cell? (q3.add 4) = some (.int .u8 x26_4) ∧
      ∃ x26_5 : Int, W4.cell? (q3.add 5) = some (.int .u8 x26_5) ∧
      ∃ x26_6 : Int, W4.cell? (q3.add 6) = some (.int .u8 x26_6) ∧
      ∃ x26_7 : Int, W4.cell? (q3.add 7) = some (.int .u8 x26_7) ∧
      ∃ x26_8 : Int, W4.cell? (q3.add 8) = some (.int .u8 x26_8) ∧
      ∃ x26_9 : Int, W4.cell? (q3.add 9) = some (.int .u8 x26_9) ∧
      ∃ x26_10 : Int, W4.cell? (q3.add 10) = some (.int .u8 x26_10) ∧
      ∃ x26_11 : Int, W4.cell? (q3.add 11) = some (.int .u8 x26_11) ∧
      ∃ x26_12 : Int, W4.cell? (q3.add 12) = some (.int .u8 x26_12) ∧
      ∃ x26_13 : Int, W4.cell? (q3.add 13) = some (.int .u8 x26_13) ∧
      ∃ x26_14 : Int, W4.cell? (q3.add 14) = some (.int .u8 x26_14) ∧
      ∃ x26_15 : Int, W4.cell? (q3.add 15) = some (.int .u8 x26_15) ∧
      stC W4 q2 [(.int .u8 x26_0), (.int .u8 x26_1), (.int .u8 x26_2), (.int .u8 x26_3), (.int .u8 x26_4), (.int .u8 x26_5), (.int .u8 x26_6), (.int .u8 x26_7), (.int .u8 x26_8), (.int .u8 x26_9), (.int .u8 x26_10), (.int .u8 x26_11), (.int .u8 x26_12), (.int .u8 x26_13), (.int .u8 x26_14), (.int .u8 x26_15)] 0 fun W7 =>
      ∃ xr2_0 : Int, W7.cell? (q2.add 0) = some (.int .u8 xr2_0) ∧
      ∃ xr2_1 : Int, W7.cell? (q2.add 1) = some (.int .u8 xr2_1) ∧
      ∃ xr2_2 : Int, W7.cell? (q2.add 2) = some (.int .u8 xr2_2) ∧
      ∃ xr2_3 : Int, W7.cell? (q2.add 3) = some (.int .u8 xr2_3) ∧
      ∃ xr2_4 : Int, W7.cell? (q2.add 4) = some (.int .u8 xr2_4) ∧
      ∃ xr2_5 : Int, W7.cell? (q2.add 5) = some (.int .u8 xr2_5) ∧
      ∃ xr2_6 : Int, W7.cell? (q2.add 6) = some (.int .u8 xr2_6) ∧
      ∃ xr2_7 : Int, W7.cell? (q2.add 7) = some (.int .u8 xr2_7) ∧
      ∃ xr2_8 : Int, W7.cell? (q2.add 8) = some (.int .u8 xr2_8) ∧
      ∃ xr2_9 : Int, W7.cell? (q2.add 9) = some (.int .u8 xr2_9) ∧
      ∃ xr2_10 : Int, W7.cell? (q2.add 10) = some (.int .u8 xr2_10) ∧
      ∃ xr2_11 : Int, W7.cell? (q2.add 11) = some (.int .u8 xr2_11) ∧
      ∃ xr2_12 : Int, W7.cell? (q2.add 12) = some (.int .u8 xr2_12) ∧
      ∃ xr2_13 : Int, W7.cell? (q2.add 13) = some (.int .u8 xr2_13) ∧
      ∃ xr2_14 : Int, W7.cell? (q2.add 14) = some (.int .u8 xr2_14) ∧
      ∃ xr2_15 : Int, W7.cell? (q2.add 15) = some (.int .u8 xr2_15) ∧
      R (.returned (.agg #[(.int .u8 xr2_0), (.int .u8 xr2_1), (.int .u8 xr2_2), (.int .u8 xr2_3), (.int .u8 xr2_4), (.int .u8 xr2_5), (.int .u8 xr2_6), (.int .u8 xr2_7), (.int .u8 xr2_8), (.int .u8 xr2_9), (.int .u8 xr2_10), (.int .u8 xr2_11), (.int .u8 xr2_12), (.int .u8 xr2_13), (.int .u8 xr2_14), (.int .u8 xr2_15)])) W7)) → L x5 W4) →
  L 0 W3
theorem of_pair_Join (x0_0 : Int) (x0_1 : Int) (W : World) (R : Ending → World → Prop) (h : V_pair_Join x0_0 x0_1 W R) : Calls Tryd.prog 77 #[(.agg #[(.int .u64 x0_0), (.int .u64 x0_1)])] W R :=
  calls_of_vcF Tryd.mix Tryd.func77 (an := (.seq .nil (.seq .nil (.seq (.seq .nil (.blk (.lp [(5, .int .i64)] [4, 6, 7, 8, 9, 10, 11, 12, 13, 14, 15, 16, 17, 18, 19, 20, 21, 22, 23, 24, 25] (.seq .nil (.seq (.cond .nil .nil) (.seq (.blk (.seq .nil (.seq .nil .nil))) .nil)))))) (.seq .nil .nil))))) (args := [(.agg #[(.int .u64 x0_0), (.int .u64 x0_1)])]) (Eq.mpr (by kernel_rfl : vcF Tryd.prog Tryd.f77 (.seq .nil (.seq .nil (.seq (.seq .nil (.blk (.lp [(5, .int .i64)] [4, 6, 7, 8, 9, 10, 11, 12, 13, 14, 15, 16, 17, 18, 19, 20, 21, 22, 23, 24, 25] (.seq .nil (.seq (.cond .nil .nil) (.seq (.blk (.seq .nil (.seq .nil .nil))) .nil)))))) (.seq .nil .nil)))) [(.agg #[(.int .u64 x0_0), (.int .u64 x0_1)])] W R = V_pair_Join x0_0 x0_1 W R) h)

/-- slices.Equal[[]int,int] -/
def V_slices_Equal_int (s0 : Sl) (s1 : Sl) (W : World) (R : Ending → World → Prop) : Prop :=
  Br (((s0.len : Int) : Int) != (s1.len : Int))
    (R (.returned (.bool false)) W)
    (∀ L : Int → World → Prop, (∀ (x13 : Int) W1, (
      Br (decide ((x13 : Int) < (s0.len : Int)))
        (Dw W1 fun W2 =>
        ∃ q18 : Addr, (s0.a = some q18 ∧ (0 : Int) ≤ x13 ∧ x13 < (s0.len : Int)) ∧
        ∃ x19 : Int, W2.cell? (q18.add ((x13 : Int).toNat * 1)) = some (.int .i64 x19) ∧
        ∃ q22 : Addr, (s1.a = some q22 ∧ (0 : Int) ≤ x13 ∧ x13 < (s1.len : Int)) ∧
        ∃ x23 : Int, W2.cell? (q22.add ((x13 : Int).toNat * 1)) = some (.int .i64 x23) ∧
        Br ((x19 : Int) != x23)
          (R (.returned (.bool false)) W2)
          (L (IntKind.wrap .i64 (x13 + 1)) W2))
        (R (.returned (.bool true)) W1)) → L x13 W1) →
    L 0 W)
theorem of_slices_Equal_int (s0 : Sl) (s1 : Sl) (W : World) (R : Ending → World → Prop) (h : V_slices_Equal_int s0 s1 W R) : Calls Tryd.prog 78 #[s0.v, s1.v] W R :=
  calls_of_vcF Tryd.mix Tryd.func78 (an := (.seq .nil (.seq (.seq .nil (.cond (.seq .nil .nil) .nil)) (.seq (.seq .nil (.blk (.lp [(13, .int .i64)] [4, 5, 14, 15, 16, 17, 18, 19, 20, 21, 22, 23, 24, 25] (.seq .nil (.seq (.cond .nil .nil) (.seq (.blk (.seq .nil (.seq .nil (.cond (.seq .nil .nil) .nil)))) .nil)))))) (.seq .nil .nil))))) (args := [s0.v, s1.v]) (Eq.mpr (by kernel_rfl : vcF Tryd.prog Tryd.f78 (.seq .nil (.seq (.seq .nil (.cond (.seq .nil .nil) .nil)) (.seq (.seq .nil (.blk (.lp [(13, .int .i64)] [4, 5, 14, 15, 16, 17, 18, 19, 20, 21, 22, 23, 24, 25] (.seq .nil (.seq (.cond .nil .nil) (.seq (.blk (.seq .nil (.seq .nil (.cond (.seq .nil .nil) .nil)))) .nil)))))) (.seq .nil .nil)))) [s0.v, s1.v] W R = V_slices_Equal_int s0 s1 W R) h)

/-- (*plait/valid.walker).die -/
def V_valid_walker_die (p0 : Option Addr) (W : World) (R : Ending → World → Prop) : Prop :=
  CallV Tryd.prog 54 #[(.pointer p0)] W fun v W1 => ∃ p4 : Option Addr, v = (.pointer p4) ∧
  Dw W1 fun W2 =>
  ∃ q7 : Addr, p0 = some q7 ∧
  ∃ s9 : Sl, W2.cell? (q7.add 12) = some s9.v ∧
  ∃ q11 : Addr, p4 = some q11 ∧
  ∃ x13 : Int, W2.cell? (q11.add 1) = some (.int .i64 x13) ∧
  ((0 : Int) ≤ x13 ∧ x13 ≤ (s9.cap : Int)) ∧
  ∃ q15 : Addr, p0 = some q15 ∧
  stC W2 (q15.add 12) [(.slice (if s9.cap = 0 then s9.a else Option.map (fun a : Addr => a.add (0 * 1)) s9.a) ((x13 : Int).toNat - 0) (s9.cap - 0))] 0 fun W3 =>
  ∃ q18 : Addr, p4 = some q18 ∧
  stC W3 (q18.add 4) [(.bool true)] 0 fun W4 =>
  R (.returned (.tuple #[])) W4
theorem of_valid_walker_die (p0 : Option Addr) (W : World) (R : Ending → World → Prop) (h : V_valid_walker_die p0 W R) : Calls Tryd.prog 79 #[(.pointer p0)] W R :=
  calls_of_vcF Tryd.mix Tryd.func79 (an := (.seq .nil (.seq .nil .nil))) (args := [(.pointer p0)]) (Eq.mpr (by kernel_rfl : vcF Tryd.prog Tryd.f79 (.seq .nil (.seq .nil .nil)) [(.pointer p0)] W R = V_valid_walker_die p0 W R) h)

/-- (*plait/valid.walker).label -/
def V_valid_walker_label (p0 : Option Addr) (x1 : Int) (W : World) (R : Ending → World → Prop) : Prop :=
  ∃ q8 : Addr, p0 = some q8 ∧
  ∃ s10 : Sl, W.cell? (q8.add 13) = some s10.v ∧
  Br (decide ((x1 : Int) ≥ (s10.len : Int)))
    (∃ q14 : Addr, p0 = some q14 ∧
    stC W (q14.add 14) [(.bool true)] 0 fun W1 =>
    R (.returned (.slice none 0 0)) W1)
    (Dw W fun W2 =>
    ∃ S : World → Prop, S W2 ∧
    ∃ q17 : Addr, p0 = some q17 ∧
    ∃ s19 : Sl, (∀ w, S w → w.cell? (q17.add 13) = some s19.v) ∧
    ∃ q21 : Addr, p0 = some q21 ∧
    ∃ s23 : Sl, (∀ w, S w → w.cell? (q21.add 13) = some s23.v) ∧
    ∃ q28 : Addr, (s19.a = some q28 ∧ (0 : Int) ≤ (IntKind.wrap .i64 ((IntKind.wrap .i64 ((s23.len : Int) - 1)) - x1)) ∧ (IntKind.wrap .i64 ((IntKind.wrap .i64 ((s23.len : Int) - 1)) - x1)) < (s19.len : Int)) ∧
    ∃ x29_0 : Int, (∀ w, S w → w.cell? ((q28.add (((IntKind.wrap .i64 ((IntKind.wrap .i64 ((s23.len : Int) - 1)) - x1)) : Int).toNat * 6)).add 0) = some (.int .i64 x29_0)) ∧
    ∃ x29_1 : Int, (∀ w, S w → w.cell? ((q28.add (((IntKind.wrap .i64 ((IntKind.wrap .i64 ((s23.len : Int) - 1)) - x1)) : Int).toNat * 6)).add 1) = some (.int .i64 x29_1)) ∧
    ∃ s29_2 : Sl, (∀ w, S w → w.cell? ((q28.add (((IntKind.wrap .i64 ((IntKind.wrap .i64 ((s23.len : Int) - 1)) - x1)) : Int).toNat * 6)).add 2) = some s29_2.v) ∧
    ∃ s29_3 : Sl, (∀ w, S w → w.cell? ((q28.add (((IntKind.wrap .i64 ((IntKind.wrap .i64 ((s23.len : Int) - 1)) - x1)) : Int).toNat * 6)).add 3) = some s29_3.v) ∧
    ∃ b29_4 : Bool, (∀ w, S w → w.cell? ((q28.add (((IntKind.wrap .i64 ((IntKind.wrap .i64 ((s23.len : Int) - 1)) - x1)) : Int).toNat * 6)).add 4) = some (.bool b29_4)) ∧
    ∃ b29_5 : Bool, (∀ w, S w → w.cell? ((q28.add (((IntKind.wrap .i64 ((IntKind.wrap .i64 ((s23.len : Int) - 1)) - x1)) : Int).toNat * 6)).add 5) = some (.bool b29_5)) ∧
    Na W2 #[(.int .i64 0), (.int .i64 0), (.slice none 0 0), (.slice none 0 0), (.bool false), (.bool false)] 117 fun q5 W3 =>
    S W3 ∧
    stC W3 q5 [(.int .i64 x29_0), (.int .i64 x29_1), s29_2.v, s29_3.v, (.bool b29_4), (.bool b29_5)] 0 fun W4 =>
    ∃ x31 : Int, W4.cell? (q5.add 0) = some (.int .i64 x31) ∧
    Br ((x31 : Int) == 3)
      (∃ s34 : Sl, W4.cell? (q5.add 2) = some s34.v ∧
      R (.returned s34.v) W4)
      (∃ s36 : Sl, W4.cell? (q5.add 3) = some s36.v ∧
      R (.returned s36.v) W4))
theorem of_valid_walker_label (p0 : Option Addr) (x1 : Int) (W : World) (R : Ending → World → Prop) (h : V_valid_walker_label p0 x1 W R) : Calls Tryd.prog 80 #[(.pointer p0), (.int .i64 x1)] W R :=
  calls_of_vcF Tryd.mix Tryd.func80 (an := (.seq .nil (.seq (.seq .nil (.cond (.seq .nil (.seq .nil .nil)) .nil)) (.seq .nil (.seq (.seq .nil (.cond (.seq .nil .nil) .nil)) (.seq .nil .nil)))))) (args := [(.pointer p0), (.int .i64 x1)]) (Eq.mpr (by kernel_rfl : vcF Tryd.prog Tryd.f80 (.seq .nil (.seq (.seq .nil (.cond (.seq .nil (.seq .nil .nil)) .nil)) (.seq .nil (.seq (.seq .nil (.cond (.seq .nil .nil) .nil)) (.seq .nil .nil))))) [(.pointer p0), (.int .i64 x1)] W R = V_valid_walker_label p0 x1 W R) h)

/-- (*plait/valid.walker).again -/
def V_valid_walker_again (p0 : Option Addr) (s1 : Sl) (W : World) (R : Ending → World → Prop) : Prop :=
  ∀ L : Sl → Int → World → Prop, (∀ (s4 : Sl) (x5 : Int) W1, (
    Br (decide ((x5 : Int) ≥ 0))
      (∃ q17 : Addr, (s1.a = some q17 ∧ (0 : Int) ≤ x5 ∧ x5 < (s1.len : Int)) ∧
      ∃ x18 : Int, W1.cell? (q17.add ((x5 : Int).toNat * 1)) = some (.int .i64 x18) ∧
      CallV Tryd.prog 67 #[(.pointer p0), (.int .i64 x18)] W1 fun v W2 => ∃ x19 : Int, v = (.int .i64 x19) ∧
      Na W2 #[(.int .i64 x19)] 3 fun q20 W3 =>
      RunV Tryd.prog (Builtin.append_ #[24, 24] 24 #[s4.v, (.slice (some q20) 1 1)]) W3 fun v W4 => ∃ s21 : Sl, v = s21.v ∧
      L s21 (IntKind.wrap .i64 (x5 - 1)) W4)
      (CallV Tryd.prog 87 #[s4.v] W1 fun v W5 => v = (.tuple #[]) ∧
      CallV Tryd.prog 66 #[(.pointer p0), s4.v] W5 fun v W6 => v = (.tuple #[]) ∧
      R (.returned (.tuple #[])) W6)) → L s4 x5 W1) →
  L ⟨none, 0, 0⟩ (IntKind.wrap .i64 ((s1.len : Int) - 1)) W
theorem of_valid_walker_again (p0 : Option Addr) (s1 : Sl) (W : World) (R : Ending → World → Prop) (h : V_valid_walker_again p0 s1 W R) : Calls Tryd.prog 81 #[(.pointer p0), s1.v] W R :=
  calls_of_vcF Tryd.mix Tryd.func81 (an := (.seq .nil (.seq (.seq .nil (.blk (.lp [(4, .sl), (5, .int .i64)] [9, 10, 11, 12, 13, 14, 15, 16, 17, 18, 19, 20, 21] (.seq (.seq .nil (.cond .nil .nil)) (.seq (.blk .nil) .nil))))) (.seq .nil .nil)))) (args := [(.pointer p0), s1.v]) (Eq.mpr (by kernel_rfl : vcF Tryd.prog Tryd.f81 (.seq .nil (.seq (.seq .nil (.blk (.lp [(4, .sl), (5, .int .i64)] [9, 10, 11, 12, 13, 14, 15, 16, 17, 18, 19, 20, 21] (.seq (.seq .nil (.cond .nil .nil)) (.seq (.blk .nil) .nil))))) (.seq .nil .nil))) [(.pointer p0), s1.v] W R = V_valid_walker_again p0 s1 W R) h)

/-- (*plait/valid.walker).variable -/
def V_valid_walker_variable (p0 : Option Addr) (x1_0 : Int) (x1_1 : Int) (x1_2 : Int) (x1_3 : Int) (x1_4 : Int) (s1_5 : Sl) (W : World) (R : Ending → World → Prop) : Prop :=
  Na W #[(.int .i64 x1_0), (.int .i64 x1_1), (.int .i64 x1_2), (.int .u64 x1_3), (.int .u64 x1_4), s1_5.v] 40 fun q3 W1 =>
  ∀ J : Int → Bool → World → Prop, (∀ (x4 : Int) (b5 : Bool) W2, (
    ∀ J_1 : Int → Bool → World → Prop, (∀ (x4_1 : Int) (b5_1 : Bool) W3, (
      CallV Tryd.prog 70 #[(.pointer p0), (.bool b5_1)] W3 fun v W4 => v = (.tuple #[]) ∧
      ∀ J_2 : World → Prop, (∀ W5, (
        ∃ x81 : Int, W5.cell? (q3.add 0) = some (.int .i64 x81) ∧
        ∃ x85 : Int, (((x81 : Int) != 33) = true → W5.cell? (q3.add 0) = some (.int .i64 x85)) ∧
        Br (((x81 : Int) != 33) && ((x85 : Int) != 36))
          (Na W5 #[(.int .i64 x4_1)] 3 fun q90 W6 =>
          CallV Tryd.prog 66 #[(.pointer p0), (.slice (some q90) 1 1)] W6 fun v W7 => v = (.tuple #[]) ∧
          R (.returned (.tuple #[])) W7)
          (R (.returned (.tuple #[])) W5)) → J_2 W5) →
      ∃ x70 : Int, W4.cell? (q3.add 0) = some (.int .i64 x70) ∧
      ∃ x74 : Int, (((x70 : Int) != 32) = true → W4.cell? (q3.add 0) = some (.int .i64 x74)) ∧
      Br (((x70 : Int) != 32) && ((x74 : Int) != 35))
        (CallV Tryd.prog 67 #[(.pointer p0), (.int .i64 x4_1)] W4 fun v W8 => ∃ x79 : Int, v = (.int .i64 x79) ∧
        J_2 W8)
        (J_2 W4)) → J_1 x4_1 b5_1 W3) →
    Dw W2 fun W9 =>
    ∃ x28 : Int, W9.cell? (q3.add 0) = some (.int .i64 x28) ∧
    ∃ x32 : Int, ((decide ((x28 : Int) > 34)) = true → W9.cell? (q3.add 1) = some (.int .i64 x32)) ∧
    ∃ q34 : Addr, ((decide ((x28 : Int) > 34)) = true → p0 = some q34) ∧
    ∃ s37 : Sl, ((decide ((x28 : Int) > 34)) = true → W9.cell? ((q34.add 0).add 5) = some s37.v) ∧
    Br ((decide ((x28 : Int) > 34)) && (decide ((x32 : Int) < (s37.len : Int))))
      (Dw W9 fun W10 =>
      ∃ q42 : Addr, p0 = some q42 ∧
      ∃ s45 : Sl, W10.cell? ((q42.add 0).add 5) = some s45.v ∧
      ∃ x47 : Int, W10.cell? (q3.add 1) = some (.int .i64 x47) ∧
      ∃ q48 : Addr, (s45.a = some q48 ∧ (0 : Int) ≤ x47 ∧ x47 < (s45.len : Int)) ∧
      ∃ x50 : Int, W10.cell? ((q48.add ((x47 : Int).toNat * 3)).add 0) = some (.int .i64 x50) ∧
      ∃ x52 : Int, W10.cell? (q3.add 0) = some (.int .i64 x52) ∧
      ∃ q56 : Addr, (((x52 : Int) == 35) = false → p0 = some q56) ∧
      ∃ s59 : Sl, (((x52 : Int) == 35) = false → W10.cell? ((q56.add 0).add 5) = some s59.v) ∧
      ∃ x61 : Int, (((x52 : Int) == 35) = false → W10.cell? (q3.add 1) = some (.int .i64 x61)) ∧
      ∃ q62 : Addr, (((x52 : Int) == 35) = false → (s59.a = some q62 ∧ (0 : Int) ≤ x61 ∧ x61 < (s59.len : Int))) ∧
      ∃ b64 : Bool, (((x52 : Int) == 35) = false → W10.cell? ((q62.add ((x61 : Int).toNat * 3)).add 1) = some (.bool b64)) ∧
      J_1 x50 (((x52 : Int) == 35) || b64) W10)
      (J_1 x4 b5 W9)) → J x4 b5 W2) →
  Dw W1 fun W11 =>
  ∃ x7 : Int, W11.cell? (q3.add 0) = some (.int .i64 x7) ∧
  ∃ x11 : Int, ((decide ((x7 : Int) ≤ 34)) = true → W11.cell? (q3.add 1) = some (.int .i64 x11)) ∧
  ∃ q13 : Addr, ((decide ((x7 : Int) ≤ 34)) = true → p0 = some q13) ∧
  ∃ s15 : Sl, ((decide ((x7 : Int) ≤ 34)) = true → W11.cell? (q13.add 11) = some s15.v) ∧
  Br ((decide ((x7 : Int) ≤ 34)) && (decide ((x11 : Int) < (s15.len : Int))))
    (Dw W11 fun W12 =>
    ∃ q20 : Addr, p0 = some q20 ∧
    ∃ s22 : Sl, W12.cell? (q20.add 11) = some s22.v ∧
    ∃ x24 : Int, W12.cell? (q3.add 1) = some (.int .i64 x24) ∧
    ∃ q25 : Addr, (s22.a = some q25 ∧ (0 : Int) ≤ x24 ∧ x24 < (s22.len : Int)) ∧
    ∃ x26 : Int, W12.cell? (q25.add ((x24 : Int).toNat * 1)) = some (.int .i64 x26) ∧
    J x26 true W12)
    (J 0 false W11)
theorem of_valid_walker_variable (p0 : Option Addr) (x1_0 : Int) (x1_1 : Int) (x1_2 : Int) (x1_3 : Int) (x1_4 : Int) (s1_5 : Sl) (W : World) (R : Ending → World → Prop) (h : V_valid_walker_variable p0 x1_0 x1_1 x1_2 x1_3 x1_4 s1_5 W R) : Calls Tryd.prog 82 #[(.pointer p0), (.agg #[(.int .i64 x1_0), (.int .i64 x1_1), (.int .i64 x1_2), (.int .u64 x1_3), (.int .u64 x1_4), s1_5.v])] W R :=
  calls_of_vcF Tryd.mix Tryd.func82 (an := (.seq .nil (.seq .nil (.jn [(4, .int .i64), (5, .bool)] [6, 7, 8, 9, 10, 11, 12, 13, 14, 15, 16, 17, 18, 19, 20, 21, 22, 23, 24, 25, 26] (.seq .nil (.cond .nil .nil)) (.jn [(4, .int .i64), (5, .bool)] [27, 28, 29, 30, 31, 32, 33, 34, 35, 36, 37, 38, 39, 40, 41, 42, 43, 44, 45, 46, 47, 48, 49, 50, 51, 52, 53, 54, 55, 56, 57, 58, 59, 60, 61, 62, 63, 64, 65] (.seq .nil (.cond .nil .nil)) (.seq .nil (.jn [] [69, 70, 71, 72, 73, 74, 75, 76, 77, 78, 79] (.seq .nil (.cond .nil .nil)) (.seq .nil (.cond .nil .nil))))))))) (args := [(.pointer p0), (.agg #[(.int .i64 x1_0), (.int .i64 x1_1), (.int .i64 x1_2), (.int .u64 x1_3), (.int .u64 x1_4), s1_5.v])]) (Eq.mpr (by kernel_rfl : vcF Tryd.prog Tryd.f82 (.seq .nil (.seq .nil (.jn [(4, .int .i64), (5, .bool)] [6, 7, 8, 9, 10, 11, 12, 13, 14, 15, 16, 17, 18, 19, 20, 21, 22, 23, 24, 25, 26] (.seq .nil (.cond .nil .nil)) (.jn [(4, .int .i64), (5, .bool)] [27, 28, 29, 30, 31, 32, 33, 34, 35, 36, 37, 38, 39, 40, 41, 42, 43, 44, 45, 46, 47, 48, 49, 50, 51, 52, 53, 54, 55, 56, 57, 58, 59, 60, 61, 62, 63, 64, 65] (.seq .nil (.cond .nil .nil)) (.seq .nil (.jn [] [69, 70, 71, 72, 73, 74, 75, 76, 77, 78, 79] (.seq .nil (.cond .nil .nil)) (.seq .nil (.cond .nil .nil)))))))) [(.pointer p0), (.agg #[(.int .i64 x1_0), (.int .i64 x1_1), (.int .i64 x1_2), (.int .u64 x1_3), (.int .u64 x1_4), s1_5.v])] W R = V_valid_walker_variable p0 x1_0 x1_1 x1_2 x1_3 x1_4 s1_5 W R) h)

/-- plait/expr.rest -/
def V_expr_rest (x0_0 : Int) (x0_1 : Int) (x0_2 : Int) (x0_3 : Int) (x0_4 : Int) (s0_5 : Sl) (x1 : Int) (W : World) (R : Ending → World → Prop) : Prop :=
  Na W #[(.int .i64 x0_0), (.int .i64 x0_1), (.int .i64 x0_2), (.int .u64 x0_3), (.int .u64 x0_4), s0_5.v] 40 fun q2 W1 =>
  ∃ s13 : Sl, (((x1 : Int) != 4) = true → W1.cell? (q2.add 5) = some s13.v) ∧
  Br (((x1 : Int) != 4) && (decide (((s13.len : Int) : Int) > 0)))
    (R (.returned (.bool false)) W1)
    (Dw W1 fun W2 =>
    ∃ x18 : Int, W2.cell? (q2.add 1) = some (.int .i64 x18) ∧
    ∃ x20 : Int, W2.cell? (q2.add 2) = some (.int .i64 x20) ∧
    ∃ x22 : Int, W2.cell? (q2.add 3) = some (.int .u64 x22) ∧
    ∃ x24 : Int, W2.cell? (q2.add 4) = some (.int .u64 x24) ∧
    ∀ J : Int → Int → Int → Int → World → Prop, (∀ (x5 : Int) (x6 : Int) (x7 : Int) (x8 : Int) W3, (
      R (.returned (.bool (((((x5 : Int) == 0) && ((x6 : Int) == 0)) && ((x7 : Int) == 0)) && ((x8 : Int) == 0)))) W3) → J x5 x6 x7 x8 W3) →
    ∀ J_1 : Bool → World → Prop, (∀ (b26 : Bool) W4, (
      Br b26
        (J 0 x20 x22 x24 W4)
        (∀ J_2 : Bool → World → Prop, (∀ (b32 : Bool) W5, (
          Br b32
            (J 0 0 x22 x24 W5)
            (Br ((x1 : Int) == 8)
              (J 0 0 0 x24 W5)
              (Br ((x1 : Int) == 9)
                (Br ((x1 : Int) == 9)
                  (J x18 x20 0 x24 W5)
                  (Br ((x1 : Int) == 11)
                    (Br ((x1 : Int) == 11)
                      (J x18 x20 0 0 W5)
                      (J x18 x20 x22 x24 W5))
                    (Br ((x1 : Int) == 12)
                      (J x18 x20 0 0 W5)
                      (J x18 x20 x22 x24 W5))))
                (Br ((x1 : Int) == 10)
                  (J x18 x20 0 x24 W5)
                  (Br ((x1 : Int) == 11)
                    (Br ((x1 : Int) == 11)
                      (J x18 x20 0 0 W5)
                      (J x18 x20 x22 x24 W5))
                    (Br ((x1 : Int) == 12)
                      (J x18 x20 0 0 W5)
                      (J x18 x20 x22 x24 W5))))))) → J_2 b32 W5) →
        Br ((x1 : Int) == 6)
          (J_2 ((x1 : Int) == 6) W4)
          (J_2 ((x1 : Int) == 7) W4))) → J_1 b26 W4) →
    Br ((x1 : Int) == 2)
      (J_1 ((x1 : Int) == 2) W2)
      (Br ((x1 : Int) == 3)
        (J_1 ((x1 : Int) == 3) W2)
        (Br ((x1 : Int) == 5)
          (J_1 ((x1 : Int) == 5) W2)
          (Br ((x1 : Int) == 4)
            (J_1 ((x1 : Int) == 4) W2)
            (J_1 ((x1 : Int) == 13) W2)))))
theorem of_expr_rest (x0_0 : Int) (x0_1 : Int) (x0_2 : Int) (x0_3 : Int) (x0_4 : Int) (s0_5 : Sl) (x1 : Int) (W : World) (R : Ending → World → Prop) (h : V_expr_rest x0_0 x0_1 x0_2 x0_3 x0_4 s0_5 x1 W R) : Calls Tryd.prog 83 #[(.agg #[(.int .i64 x0_0), (.int .i64 x0_1), (.int .i64 x0_2), (.int .u64 x0_3), (.int .u64 x0_4), s0_5.v]), (.int .i64 x1)] W R :=
  calls_of_vcF Tryd.mix Tryd.func83 (an := (.seq .nil (.seq (.seq .nil (.cond (.seq .nil .nil) .nil)) (.seq .nil (.jn [(5, .int .i64), (6, .int .i64), (7, .int .u64), (8, .int .u64)] [25, 26, 27, 28, 29, 30, 31, 32, 33, 34, 35, 36, 37, 38, 39, 40, 41, 42] (.seq .nil (.blk (.jn [(26, .bool)] [27, 28, 29, 30, 31] (.seq .nil (.cond .nil (.seq .nil (.cond .nil (.seq .nil (.cond .nil (.seq .nil (.cond .nil .nil)))))))) (.cond .nil (.jn [(32, .bool)] [33, 34] (.seq .nil (.cond .nil .nil)) (.cond .nil (.seq .nil (.cond .nil (.seq (.seq .nil (.cond .nil .nil)) (.cond .nil (.seq (.seq .nil (.cond .nil .nil)) (.cond .nil .nil)))))))))))) (.seq .nil .nil)))))) (args := [(.agg #[(.int .i64 x0_0), (.int .i64 x0_1), (.int .i64 x0_2), (.int .u64 x0_3), (.int .u64 x0_4), s0_5.v]), (.int .i64 x1)]) (Eq.mpr (by kernel_rfl : vcF Tryd.prog Tryd.f83 (.seq .nil (.seq (.seq .nil (.cond (.seq .nil .nil) .nil)) (.seq .nil (.jn [(5, .int .i64), (6, .int .i64), (7, .int .u64), (8, .int .u64)] [25, 26, 27, 28, 29, 30, 31, 32, 33, 34, 35, 36, 37, 38, 39, 40, 41, 42] (.seq .nil (.blk (.jn [(26, .bool)] [27, 28, 29, 30, 31] (.seq .nil (.cond .nil (.seq .nil (.cond .nil (.seq .nil (.cond .nil (.seq .nil (.cond .nil .nil)))))))) (.cond .nil (.jn [(32, .bool)] [33, 34] (.seq .nil (.cond .nil .nil)) (.cond .nil (.seq .nil (.cond .nil (.seq (.seq .nil (.cond .nil .nil)) (.cond .nil (.seq (.seq .nil (.cond .nil .nil)) (.cond .nil .nil)))))))))))) (.seq .nil .nil))))) [(.agg #[(.int .i64 x0_0), (.int .i64 x0_1), (.int .i64 x0_2), (.int .u64 x0_3), (.int .u64 x0_4), s0_5.v]), (.int .i64 x1)] W R = V_expr_rest x0_0 x0_1 x0_2 x0_3 x0_4 s0_5 x1 W R) h)

/-- plait/leb.PutS -/
def V_leb_PutS (s0 : Sl) (W : World) (R : Ending → World → Prop) : Prop :=
  ∀ L : Sl → Int → World → Prop, (∀ (s3 : Sl) (x8 : Int) W1, (
    Br (decide ((x8 : Int) < (s0.len : Int)))
      (∃ q10 : Addr, (s0.a = some q10 ∧ (0 : Int) ≤ x8 ∧ x8 < (s0.len : Int)) ∧
      ∃ x11 : Int, W1.cell? (q10.add ((x8 : Int).toNat * 1)) = some (.int .i64 x11) ∧
      ∀ L_1 : Sl → Int → World → Prop, (∀ (s3_1 : Sl) (x5 : Int) W2, (
        Br ((decide ((x5 : Int) < (-64))) || (decide ((x5 : Int) > 63)))
          (Na W2 #[(.int .u8 (IntKind.wrap .u8 (BitVec.ofInt (IntKind.bits .u8) (IntKind.wrap .u8 x5) ||| BitVec.ofInt (IntKind.bits .u8) 128).toNat))] 5 fun q22 W3 =>
          RunV Tryd.prog (Builtin.append_ #[59, 59] 59 #[s3_1.v, (.slice (some q22) 1 1)]) W3 fun v W4 => ∃ s23 : Sl, v = s23.v ∧
          (0 : Int) ≤ 7 ∧
          L_1 s23 (Int.fdiv x5 (2 ^ (min (7 : Int).toNat (IntKind.bits .i64)))) W4)
          (Na W2 #[(.int .u8 (IntKind.wrap .u8 (IntKind.wrap .i64 (BitVec.ofInt (IntKind.bits .i64) x5 &&& BitVec.ofInt (IntKind.bits .i64) 127).toNat)))] 5 fun q30 W5 =>
          RunV Tryd.prog (Builtin.append_ #[59, 59] 59 #[s3_1.v, (.slice (some q30) 1 1)]) W5 fun v W6 => ∃ s31 : Sl, v = s31.v ∧
          L s31 (IntKind.wrap .i64 (x8 + 1)) W6)) → L_1 s3_1 x5 W2) →
      L_1 s3 x11 W1)
      (R (.returned s3.v) W1)) → L s3 x8 W1) →
  L ⟨none, 0, 0⟩ 0 W
theorem of_leb_PutS (s0 : Sl) (W : World) (R : Ending → World → Prop) (h : V_leb_PutS s0 W R) : Calls Tryd.prog 84 #[s0.v] W R :=
  calls_of_vcF Tryd.mix Tryd.func84 (an := (.seq .nil (.seq .nil (.seq (.seq .nil (.blk (.lp [(3, .sl), (8, .int .i64)] [5, 9, 10, 11, 12, 13, 14, 15, 16, 17, 18, 19, 20, 21, 22, 23, 24, 25, 26, 27, 28, 29, 30, 31, 32] (.seq .nil (.seq (.cond .nil .nil) (.seq (.blk (.seq .nil (.seq (.blk (.lp [(3, .sl), (5, .int .i64)] [12, 13, 14, 15, 16, 17, 18, 19, 20, 21, 22, 23, 24, 25] (.seq (.seq .nil (.cond .nil .nil)) (.blk (.seq .nil .nil))))) .nil))) .nil)))))) (.seq .nil .nil))))) (args := [s0.v]) (Eq.mpr (by kernel_rfl : vcF Tryd.prog Tryd.f84 (.seq .nil (.seq .nil (.seq (.seq .nil (.blk (.lp [(3, .sl), (8, .int .i64)] [5, 9, 10, 11, 12, 13, 14, 15, 16, 17, 18, 19, 20, 21, 22, 23, 24, 25, 26, 27, 28, 29, 30, 31, 32] (.seq .nil (.seq (.cond .nil .nil) (.seq (.blk (.seq .nil (.seq (.blk (.lp [(3, .sl), (5, .int .i64)] [12, 13, 14, 15, 16, 17, 18, 19, 20, 21, 22, 23, 24, 25] (.seq (.seq .nil (.cond .nil .nil)) (.blk (.seq .nil .nil))))) .nil))) .nil)))))) (.seq .nil .nil)))) [s0.v] W R = V_leb_PutS s0 W R) h)

/-- plait/expr.number -/
def V_expr_number (x0 : Int) (W : World) (R : Ending → World → Prop) : Prop :=
  R (.returned (.bool ((decide ((x0 : Int) ≥ 0)) && (decide ((x0 : Int) < 4294967296))))) W
theorem of_expr_number (x0 : Int) (W : World) (R : Ending → World → Prop) (h : V_expr_number x0 W R) : Calls Tryd.prog 85 #[(.int .i64 x0)] W R :=
  calls_of_vcF Tryd.mix Tryd.func85 (an := (.seq .nil (.seq .nil .nil))) (args := [(.int .i64 x0)]) (Eq.mpr (by kernel_rfl : vcF Tryd.prog Tryd.f85 (.seq .nil (.seq .nil .nil)) [(.int .i64 x0)] W R = V_expr_number x0 W R) h)

/-- plait/expr.constant -/
def V_expr_constant (s0 : Sl) (x1_0 : Int) (x1_1 : Int) (x1_2 : Int) (x1_3 : Int) (x1_4 : Int) (s1_5 : Sl) (x2 : Int) (W : World) (R : Ending → World → Prop) : Prop :=
  Na W #[(.int .i64 x1_0), (.int .i64 x1_1), (.int .i64 x1_2), (.int .u64 x1_3), (.int .u64 x1_4), s1_5.v] 40 fun q4 W1 =>
  Br ((x2 : Int) == 9)
    (Dw W1 fun W2 =>
    ∃ S : World → Prop, S W2 ∧
    ∃ x14 : Int, (∀ w, S w → w.cell? (q4.add 3) = some (.int .u64 x14)) ∧
    ∃ x21 : Int, (∀ w, S w → w.cell? (q4.add 3) = some (.int .u64 x21)) ∧
    Na W2 #[(.int .i64 (IntKind.wrap .i64 (IntKind.wrap .i32 x14)))] 2 fun q17 W3 =>
    S W3 ∧
    CallV Tryd.prog 84 #[(.slice (some q17) 1 1)] W3 fun v W4 => ∃ s18 : Sl, v = s18.v ∧
    S W4 ∧
    RunV Tryd.prog (Builtin.append_ #[59, 59] 59 #[s0.v, s18.v]) W4 fun v W5 => ∃ s19 : Sl, v = s19.v ∧
    S W5 ∧
    R (.returned (.tuple #[s19.v, (.bool (decide ((x21 : Int) < 4294967296)))])) W5)
    (Br ((x2 : Int) == 10)
      (∃ x27 : Int, W1.cell? (q4.add 3) = some (.int .u64 x27) ∧
      Na W1 #[(.int .i64 (IntKind.wrap .i64 x27))] 2 fun q29 W6 =>
      CallV Tryd.prog 84 #[(.slice (some q29) 1 1)] W6 fun v W7 => ∃ s30 : Sl, v = s30.v ∧
      RunV Tryd.prog (Builtin.append_ #[59, 59] 59 #[s0.v, s30.v]) W7 fun v W8 => ∃ s31 : Sl, v = s31.v ∧
      R (.returned (.tuple #[s31.v, (.bool true)])) W8)
      (Br ((x2 : Int) == 13)
        (Dw W1 fun W9 =>
        ∃ S_1 : World → Prop, S_1 W9 ∧
        ∃ x36 : Int, (∀ w, S_1 w → w.cell? (q4.add 1) = some (.int .i64 x36)) ∧
        ∃ x41 : Int, (∀ w, S_1 w → w.cell? (q4.add 1) = some (.int .i64 x41)) ∧
        Na W9 #[(.int .u8 (IntKind.wrap .u8 x36))] 5 fun q38 W10 =>
        S_1 W10 ∧
        RunV Tryd.prog (Builtin.append_ #[59, 59] 59 #[s0.v, (.slice (some q38) 1 1)]) W10 fun v W11 => ∃ s39 : Sl, v = s39.v ∧
        S_1 W11 ∧
        ∃ x45 : Int, ((decide ((x41 : Int) ≥ 0)) = true → (∀ w, S_1 w → w.cell? (q4.add 1) = some (.int .i64 x45))) ∧
        R (.returned (.tuple #[s39.v, (.bool ((decide ((x41 : Int) ≥ 0)) && (decide ((x45 : Int) < 256))))])) W11)
        (Br ((x2 : Int) == 14)
          (Na W1 #[(.int .u8 0)] 5 fun q51 W12 =>
          RunV Tryd.prog (Builtin.append_ #[59, 59] 59 #[s0.v, (.slice (some q51) 1 1)]) W12 fun v W13 => ∃ s52 : Sl, v = s52.v ∧
          R (.returned (.tuple #[s52.v, (.bool true)])) W13)
          (∃ x54 : Int, W1.cell? (q4.add 3) = some (.int .u64 x54) ∧
          ∃ x56 : Int, W1.cell? (q4.add 4) = some (.int .u64 x56) ∧
          CallV Tryd.prog 77 #[(.agg #[(.int .u64 x54), (.int .u64 x56)])] W1 fun v W14 => ∃ x58_0 : Int, ∃ x58_1 : Int, ∃ x58_2 : Int, ∃ x58_3 : Int, ∃ x58_4 : Int, ∃ x58_5 : Int, ∃ x58_6 : Int, ∃ x58_7 : Int, ∃ x58_8 : Int, ∃ x58_9 : Int, ∃ x58_10 : Int, ∃ x58_11 : Int, ∃ x58_12 : Int, ∃ x58_13 : Int, ∃ x58_14 : Int, ∃ x58_15 : Int, v = (.agg #[(.int .u8 x58_0), (.int .u8 x58_1), (.int .u8 x58_2), (.int .u8 x58_3), (.int .u8 x58_4), (.int .u8 x58_5), (.int .u8 x58_6), (.int .u8 x58_7), (.int .u8 x58_8), (.int .u8 x58_9), (.int .u8 x58_10), (.int .u8 x58_11), (.int .u8 x58_12), (.int .u8 x58_13), (.int .u8 x58_14), (.int .u8 x58_15)]) ∧
          Na W14 #[(.int .u8 0), (.int .u8 0), (.int .u8 0), (.int .u8 0), (.int .u8 0), (.int .u8 0), (.int .u8 0), (.int .u8 0), (.int .u8 0), (.int .u8 0), (.int .u8 0), (.int .u8 0), (.int .u8 0), (.int .u8 0), (.int .u8 0), (.int .u8 0)] 152 fun q8 W15 =>
          stC W15 q8 [(.int .u8 x58_0), (.int .u8 x58_1), (.int .u8 x58_2), (.int .u8 x58_3), (.int .u8 x58_4), (.int .u8 x58_5), (.int .u8 x58_6), (.int .u8 x58_7), (.int .u8 x58_8), (.int .u8 x58_9), (.int .u8 x58_10), (.int .u8 x58_11), (.int .u8 x58_12), (.int .u8 x58_13), (.int .u8 x58_14), (.int .u8 x58_15)] 0 fun W16 =>
          RunV Tryd.prog (Builtin.append_ #[59, 59] 59 #[s0.v, (.slice (some (if (16 : Nat) = 0 then q8 else (q8.add (0 * 1)))) (16 - 0) (16 - 0))]) W16 fun v W17 => ∃ s61 : Sl, v = s61.v ∧
          R (.returned (.tuple #[s61.v, (.bool true)])) W17))))
theorem of_expr_constant (s0 : Sl) (x1_0 : Int) (x1_1 : Int) (x1_2 : Int) (x1_3 : Int) (x1_4 : Int) (s1_5 : Sl) (x2 : Int) (W : World) (R : Ending → World → Prop) (h : V_expr_constant s0 x1_0 x1_1 x1_2 x1_3 x1_4 s1_5 x2 W R) : Calls Tryd.prog 86 #[s0.v, (.agg #[(.int .i64 x1_0), (.int .i64 x1_1), (.int .i64 x1_2), (.int .u64 x1_3), (.int .u64 x1_4), s1_5.v]), (.int .i64 x2)] W R :=
  calls_of_vcF Tryd.mix Tryd.func86 (an := (.seq .nil (.seq (.seq .nil (.blk (.seq .nil (.cond (.seq .nil .nil) (.seq .nil (.cond (.seq .nil .nil) (.seq .nil (.cond (.seq .nil .nil) (.seq .nil (.cond (.seq .nil .nil) .nil)))))))))) (.seq .nil (.seq .nil .nil))))) (args := [s0.v, (.agg #[(.int .i64 x1_0), (.int .i64 x1_1), (.int .i64 x1_2), (.int .u64 x1_3), (.int .u64 x1_4), s1_5.v]), (.int .i64 x2)]) (Eq.mpr (by kernel_rfl : vcF Tryd.prog Tryd.f86 (.seq .nil (.seq (.seq .nil (.blk (.seq .nil (.cond (.seq .nil .nil) (.seq .nil (.cond (.seq .nil .nil) (.seq .nil (.cond (.seq .nil .nil) (.seq .nil (.cond (.seq .nil .nil) .nil)))))))))) (.seq .nil (.seq .nil .nil)))) [s0.v, (.agg #[(.int .i64 x1_0), (.int .i64 x1_1), (.int .i64 x1_2), (.int .u64 x1_3), (.int .u64 x1_4), s1_5.v]), (.int .i64 x2)] W R = V_expr_constant s0 x1_0 x1_1 x1_2 x1_3 x1_4 s1_5 x2 W R) h)

/-- slices.Reverse[[]int,int] -/
def V_slices_Reverse_int (s0 : Sl) (W : World) (R : Ending → World → Prop) : Prop :=
  ∀ L : Int → Int → World → Prop, (∀ (x2 : Int) (x3 : Int) W1, (
    Br (decide ((x2 : Int) < x3))
      (Dw W1 fun W2 =>
      ∃ q20 : Addr, (s0.a = some q20 ∧ (0 : Int) ≤ x3 ∧ x3 < (s0.len : Int)) ∧
      ∃ x21 : Int, W2.cell? (q20.add ((x3 : Int).toNat * 1)) = some (.int .i64 x21) ∧
      ∃ q24 : Addr, (s0.a = some q24 ∧ (0 : Int) ≤ x2 ∧ x2 < (s0.len : Int)) ∧
      ∃ x25 : Int, W2.cell? (q24.add ((x2 : Int).toNat * 1)) = some (.int .i64 x25) ∧
      ∃ q26 : Addr, (s0.a = some q26 ∧ (0 : Int) ≤ x2 ∧ x2 < (s0.len : Int)) ∧
      stC W2 (q26.add ((x2 : Int).toNat * 1)) [(.int .i64 x21)] 0 fun W3 =>
      ∃ q27 : Addr, (s0.a = some q27 ∧ (0 : Int) ≤ x3 ∧ x3 < (s0.len : Int)) ∧
      stC W3 (q27.add ((x3 : Int).toNat * 1)) [(.int .i64 x25)] 0 fun W4 =>
      L (IntKind.wrap .i64 (x2 + 1)) (IntKind.wrap .i64 (x3 - 1)) W4)
      (R (.returned (.tuple #[])) W1)) → L x2 x3 W1) →
  L 0 (IntKind.wrap .i64 ((s0.len : Int) - 1)) W
theorem of_slices_Reverse_int (s0 : Sl) (W : World) (R : Ending → World → Prop) (h : V_slices_Reverse_int s0 W R) : Calls Tryd.prog 87 #[s0.v] W R :=
  calls_of_vcF Tryd.mix Tryd.func87 (an := (.seq .nil (.blk (.lp [(2, .int .i64), (3, .int .i64)] [7, 8, 9, 10, 11, 12, 13, 14, 15, 16, 17, 18, 19, 20, 21, 22, 23, 24, 25, 26, 27] (.seq (.seq .nil (.cond .nil .nil)) (.seq (.blk .nil) .nil)))))) (args := [s0.v]) (Eq.mpr (by kernel_rfl : vcF Tryd.prog Tryd.f87 (.seq .nil (.blk (.lp [(2, .int .i64), (3, .int .i64)] [7, 8, 9, 10, 11, 12, 13, 14, 15, 16, 17, 18, 19, 20, 21, 22, 23, 24, 25, 26, 27] (.seq (.seq .nil (.cond .nil .nil)) (.seq (.blk .nil) .nil))))) [s0.v] W R = V_slices_Reverse_int s0 W R) h)

end Go.Proofs.YtacjnpahlbibhaaDoor

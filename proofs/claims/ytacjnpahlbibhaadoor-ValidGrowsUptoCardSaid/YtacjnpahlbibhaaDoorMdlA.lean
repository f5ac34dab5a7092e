/- Plain functions: bytes of whole numbers. No program in sight. -/
set_option linter.unusedVariables false
namespace Go.Proofs.YtacjnpahlbibhaaDoor

/-- A piece of output: bytes, and whether it may be. -/
structure E where
  b : List Int
  ok : Bool
def E.nil : E := ⟨[], true⟩
def E.app (x y : E) : E := ⟨x.b ++ y.b, x.ok && y.ok⟩
def E.cat : List E → E
  | [] => E.nil
  | x :: r => x.app (E.cat r)
theorem E.nil_app (x : E) : E.nil.app x = x := by cases x; simp [E.nil, E.app]
theorem E.app_nil (x : E) : x.app E.nil = x := by cases x; simp [E.nil, E.app]
theorem E.app_assoc (x y z : E) : (x.app y).app z = x.app (y.app z) := by simp [E.app, Bool.and_assoc]
theorem E.cat_snoc (l : List E) (x : E) : E.cat (l ++ [x]) = (E.cat l).app x := by
  induction l with
  | nil => simp [E.cat, E.nil_app, E.app_nil]
  | cons a r ih => simp [E.cat, ih, E.app_assoc]
theorem E.cat_append (l r : List E) : E.cat (l ++ r) = (E.cat l).app (E.cat r) := by
  induction l with
  | nil => simp [E.cat, E.nil_app]
  | cons a l ih => simp [E.cat, ih, E.app_assoc]

/-- A number without a sign, by sevens of bits. -/
def lebU (n : Nat) : List Int := if n < 128 then [(n : Int)] else ((n % 128 + 128 : Nat) : Int) :: lebU (n / 128)
termination_by n
decreasing_by omega
theorem lebU_small {n : Nat} (h : n < 128) : lebU n = [(n : Int)] := by rw [lebU, if_pos h]
theorem lebU_big {n : Nat} (h : ¬ n < 128) : lebU n = ((n % 128 + 128 : Nat) : Int) :: lebU (n / 128) := by rw [lebU, if_neg h]
theorem lebU_len (k : Nat) : ∀ n : Nat, n < 128 ^ (k + 1) → (lebU n).length ≤ k + 1 := by
  induction k with
  | zero => intro n h; rw [lebU_small (by simpa using h)]; simp
  | succ k ih =>
    intro n h
    by_cases hs : n < 128
    · rw [lebU_small hs]; simp
    · rw [lebU_big hs, List.length_cons]
      have := ih (n / 128) (by rw [Nat.pow_succ] at h; omega)
      omega
theorem lebU_len10 {n : Nat} (h : n < 2 ^ 64) : (lebU n).length ≤ 10 := lebU_len 9 n (Nat.lt_of_lt_of_le h (by decide))
theorem lebU_ne (n : Nat) : lebU n ≠ [] := by
  by_cases h : n < 128
  · rw [lebU_small h]; simp
  · rw [lebU_big h]; simp
theorem lebU_byte (n : Nat) : ∀ x ∈ lebU n, 0 ≤ x ∧ x < 256 := by
  induction n using Nat.strongRecOn with
  | _ n ih =>
    intro x hx
    by_cases h : n < 128
    · rw [lebU_small h] at hx; simp at hx; omega
    · rw [lebU_big h] at hx
      rcases List.mem_cons.1 hx with rfl | hx
      · omega
      · exact ih (n / 128) (by omega) x hx
/-- A number with a sign, by sevens of bits. -/
def lebS (n : Int) : List Int := if -64 ≤ n ∧ n ≤ 63 then [n % 128] else (n % 128 + 128) :: lebS (n / 128)
termination_by n.natAbs
decreasing_by omega
theorem lebS_small {n : Int} (h : -64 ≤ n ∧ n ≤ 63) : lebS n = [n % 128] := by rw [lebS, if_pos h]
theorem lebS_big {n : Int} (h : ¬ (-64 ≤ n ∧ n ≤ 63)) : lebS n = (n % 128 + 128) :: lebS (n / 128) := by rw [lebS, if_neg h]
theorem lebS_len (k : Nat) : ∀ n : Int, -(64 * 128 ^ k : Nat) ≤ n → n < (64 * 128 ^ k : Nat) → (lebS n).length ≤ k + 1 := by
  induction k with
  | zero => intro n h1 h2; rw [lebS_small (by simp at h1 h2; omega)]; simp
  | succ k ih =>
    intro n h1 h2
    by_cases hs : -64 ≤ n ∧ n ≤ 63
    · rw [lebS_small hs]; simp
    · rw [lebS_big hs, List.length_cons]
      have e : 64 * 128 ^ (k + 1) = (64 * 128 ^ k) * 128 := by rw [Nat.pow_succ]; omega
      rw [e] at h1 h2
      have := ih (n / 128) (by omega) (by omega)
      omega
theorem lebS_len10 {n : Int} (h1 : -9223372036854775808 ≤ n) (h2 : n < 9223372036854775808) : (lebS n).length ≤ 10 := lebS_len 9 n (by omega) (by omega)
theorem lebS_byte (k : Nat) : ∀ n : Int, n.natAbs ≤ k → ∀ x ∈ lebS n, 0 ≤ x ∧ x < 256 := by
  induction k using Nat.strongRecOn with
  | _ k ih =>
    intro n hn x hx
    by_cases h : -64 ≤ n ∧ n ≤ 63
    · rw [lebS_small h] at hx; simp at hx; omega
    · rw [lebS_big h] at hx
      rcases List.mem_cons.1 hx with rfl | hx
      · omega
      · exact ih (n / 128).natAbs (by omega) (n / 128) (Nat.le_refl _) x hx
end Go.Proofs.YtacjnpahlbibhaaDoor

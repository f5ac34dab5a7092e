/- Contracts: leb.PutU, leb.PutS; the output of package encode, and its methods must, bytes, numbers, kinds. -/
import Derived.Test.YtacjnpahlbibhaaDoorVc
import Derived.Test.YtacjnpahlbibhaaDoorMdlD
set_option linter.unusedVariables false
set_option linter.unusedSimpArgs false
set_option maxRecDepth 100000
namespace Go.Proofs.YtacjnpahlbibhaaDoor
open Go Go.RowKit

/-! ### Bits of bytes -/
theorem wrap_u8 (x : Int) : IntKind.wrap .u8 x = x % 256 := by simp [IntKind.wrap, IntKind.bits, IntKind.signed]
theorem wrap_u64 (x : Int) : IntKind.wrap .u64 x = x % 18446744073709551616 := by simp [IntKind.wrap, IntKind.bits, IntKind.signed]
theorem or128 : ∀ b : BitVec 8, (b ||| 128#8).toNat = b.toNat % 128 + 128 := by decide
theorem toNat_ofInt8 (x : Int) : (BitVec.ofInt 8 x).toNat = (x % 256).toNat := by simp [BitVec.toNat_ofInt]
theorem byte_or (x : Int) : IntKind.wrap .u8 ((BitVec.ofInt (IntKind.bits .u8) (IntKind.wrap .u8 x) ||| BitVec.ofInt (IntKind.bits .u8) 128).toNat : Int) = (x % 128 + 128 : Int) := by
  have h := or128 (BitVec.ofInt 8 (IntKind.wrap .u8 x))
  have e : (BitVec.ofInt (IntKind.bits .u8) (IntKind.wrap .u8 x) ||| BitVec.ofInt (IntKind.bits .u8) 128).toNat = (x % 128 + 128).toNat := by
    show (BitVec.ofInt 8 (IntKind.wrap .u8 x) ||| 128#8).toNat = _
    rw [h, toNat_ofInt8, wrap_u8]
    omega
  rw [e, wrap_u8]
  omega
theorem byte_and (x : Int) : IntKind.wrap .u8 (IntKind.wrap .i64 ((BitVec.ofInt (IntKind.bits .i64) x &&& BitVec.ofInt (IntKind.bits .i64) 127).toNat : Int)) = (x % 128 : Int) := by
  have e : (BitVec.ofInt (IntKind.bits .i64) x &&& BitVec.ofInt (IntKind.bits .i64) 127).toNat = (x % 128).toNat := by
    show (BitVec.ofInt 64 x &&& 127#64).toNat = _
    rw [BitVec.toNat_and]
    have : (127#64 : BitVec 64).toNat = 2 ^ 7 - 1 := by decide
    rw [this, Nat.and_two_pow_sub_one_eq_mod]
    simp only [BitVec.toNat_ofInt]
    omega
  rw [e, wrap_u8, wrap_id (by omega) (by omega)]
  omega
theorem fdiv128 (x : Int) : Int.fdiv x (2 ^ (min (7 : Int).toNat (IntKind.bits .u64))) = x / 128 := by
  show Int.fdiv x 128 = _
  rw [Int.fdiv_eq_ediv_of_nonneg _ (by omega)]
theorem fdiv128' (x : Int) : Int.fdiv x (2 ^ (min (7 : Int).toNat (IntKind.bits .i64))) = x / 128 := by
  show Int.fdiv x 128 = _
  rw [Int.fdiv_eq_ediv_of_nonneg _ (by omega)]

/-! ### Bytes -/
abbrev bv (xs : List Int) : List Value := xs.map (.int .u8)
theorem bv_append (xs ys : List Int) : bv (xs ++ ys) = bv xs ++ bv ys := by simp
theorem bv_one (xs : List Int) : ∀ u ∈ bv xs, u.oneCell' = true := by
  intro u hu; obtain ⟨x, _, rfl⟩ := List.mem_map.1 hu; rfl
/-- Bytes that stand somewhere, as an append's source. -/
theorem Bytes.src {r : Rd} {W : World} {s : Sl} {xs : List Int} (h : Bytes r s xs) (hr : Sub r W) : Src Tryd.prog 1 ty_sl_uint8 s.v xs.length (bv xs) W := by
  have h1 := h.1
  rw [← h1]
  refine Src.read (e' := ty_uint8) (by kernel_rfl) (by simp [h1]) (fun j u hu => ?_) (bv_one xs)
  simp only [List.getElem?_map] at hu
  cases hx : xs[j]? with
  | none => simp [hx] at hu
  | some x =>
    simp [hx] at hu; subst hu
    obtain ⟨q, hq, hc⟩ := h.2 j x hx
    exact ⟨q, hq, hr _ _ (by simpa [IntR] using hc)⟩
/-- An owned slice of bytes, as a source. -/
theorem Own.bytes {w : World} {e : TypeId} {s : Sl} {xs : List Int} (h : Own w e 1 s (bv xs)) : Bytes w.cell? s xs := h.ints (fun _ _ _ _ h => h)
/-- One byte in a new block. -/
theorem one_byte {W : World} {b : Nat} {x : Int} {e : TypeId} (h : W.heap[b]? = some (.cells #[.int .u8 x] e (0, 0))) : Bytes W.cell? ⟨some ⟨b, 0, none⟩, 1, 1⟩ [x] := by
  refine ⟨rfl, fun i y hy => ?_⟩
  cases i with
  | zero => simp at hy; subst hy; exact ⟨_, rfl, cell_of_heap h rfl⟩
  | succ i => simp at hy
theorem one_int {W : World} {b : Nat} {x : Int} {e : TypeId} {k : IntKind} (h : W.heap[b]? = some (.cells #[.int k x] e (0, 0))) : SlOf 1 (IntR k) W.cell? ⟨some ⟨b, 0, none⟩, 1, 1⟩ [x] := by
  refine ⟨rfl, fun i y hy => ?_⟩
  cases i with
  | zero => simp at hy; subst hy; exact ⟨_, rfl, cell_of_heap h rfl⟩
  | succ i => simp at hy

def big : Nat := 1099511627776
/-- Bytes behind owned bytes. -/
theorem app_bytes {W : World} {s : Sl} {xs : List Int} (ho : Own W ty_uint8 1 s (bv xs)) {x : Value} {tx ty : TypeId} {ys : List Int} (hs : Src Tryd.prog 1 tx x ys.length (bv ys) W)
    (hl : xs.length + ys.length ≤ big) {K : Value → World → Prop}
    (hk : ∀ (s' : Sl) W', Own W' ty_uint8 1 s' (bv (xs ++ ys)) → Mod s.isB W W' → (∀ b, s'.isB b → s.isB b ∨ W.heap.size ≤ b) → K s'.v W') :
    RunV Tryd.prog (Builtin.append_ #[ty_sl_uint8, tx] ty #[s.v, x]) W K := by
  have hsl : s.len = xs.length := by have := ho.1; simpa using this.symm
  unfold big at hl
  refine tyf_sl_uint8.append rfl ho hs (by omega) (by unfold maxLen; omega) (fun s' W' h1 h2 h3 h4 => hk s' W' (by rw [bv_append]; exact h1) h3 h4)

/-! ### leb -/
theorem PutU_spec {W : World} {r : Rd} {s : Sl} {xs : List Int} (hr : Sub r W) (h : U64s r s xs) (hx : ∀ x ∈ xs, 0 ≤ x ∧ x < 18446744073709551616) (hl : xs.length ≤ 1048576) :
    Calls Tryd.prog f_leb_PutU #[s.v] W fun e W' => ∃ s' : Sl, e = .returned s'.v ∧ Own W' ty_uint8 1 s' (bv (xs.flatMap fun x => lebU x.toNat)) ∧ Mod NoB W W' ∧ (∀ b, s'.isB b → W.heap.size ≤ b) := by
  refine of_leb_PutU _ _ _ ?_
  unfold V_leb_PutU
  intro L hL
  have key : ∀ (n k : Nat) (s3 : Sl) (W1 : World), n = xs.length - k → k ≤ xs.length → Own W1 ty_uint8 1 s3 (bv ((xs.take k).flatMap fun x => lebU x.toNat)) → Mod NoB W W1 → (∀ b, s3.isB b → W.heap.size ≤ b) → L s3 (k : Int) W1 := by
    intro n
    induction n with
    | zero =>
      intro k s3 W1 hn hk ho hm hb
      have hk : k = xs.length := by omega
      refine hL _ _ _ (Br.dec (fun hlt => ?_) (fun _ => ⟨_, rfl, by rw [hk, List.take_length] at ho; exact ho, hm, hb⟩))
      rw [h.1] at hlt; omega
    | succ n ih =>
      intro k s3 W1 hn hk ho hm hb
      have hlt : k < xs.length := by omega
      refine hL _ _ _ (Br.dec (fun _ => ?_) (fun hge => absurd (by rw [h.1]; omega) hge))
      obtain ⟨q, hq, hc⟩ := h.get hlt
      refine ⟨q, ⟨hq, by omega, by rw [h.1]; omega⟩, xs[k], (hr.mod0 hm) _ _ hc, ?_⟩
      intro L1 hL1
      have hx0 := hx xs[k] (List.getElem_mem hlt)
      have hlen : ∀ j, j ≤ xs.length → ((xs.take j).flatMap fun x => lebU x.toNat).length ≤ 10 * j := by
        intro j
        induction j with
        | zero => intro _; simp
        | succ j ihj =>
          intro hj
          rw [List.take_succ_eq_append_getElem (by omega), List.flatMap_append, List.length_append]
          have h1 := ihj (by omega)
          have h2 : (lebU (xs[j]'(by omega)).toNat).length ≤ 10 := lebU_len10 (by have := hx _ (List.getElem_mem (show j < xs.length by omega)); omega)
          rw [List.flatMap_cons, List.flatMap_nil, List.append_nil]; omega
      have inner : ∀ (m : Nat) (pre : List Int) (s5 : Sl) (W2 : World), pre ++ lebU m = lebU xs[k].toNat → Own W2 ty_uint8 1 s5 (bv (((xs.take k).flatMap fun x => lebU x.toNat) ++ pre)) → Mod NoB W W2 → (∀ b, s5.isB b → W.heap.size ≤ b) → L1 s5 (m : Int) W2 := by
        intro m
        induction m using Nat.strongRecOn with
        | _ m ihm =>
          intro pre s5 W2 hpre ho2 hm2 hb2
          have hpl : (((xs.take k).flatMap fun x => lebU x.toNat) ++ pre).length + 1 ≤ big := by
            have h1 := hlen k hk
            have h2 : (pre ++ lebU m).length ≤ 10 := by rw [hpre]; exact lebU_len10 (by omega)
            rw [List.length_append] at h2 ⊢
            unfold big; omega
          refine hL1 _ _ _ (Br.dec (fun hge => ?_) (fun hsm => ?_))
          · rw [byte_or, fdiv128]
            refine Na.mk fun b W3 hb3 hm3 _ hc3 => ?_
            refine app_bytes (ho2.mod0 hm3) ((one_byte hc3).src (Sub.self _)) (by simpa using hpl) (fun s6 W4 ho4 hm4 hb4 => ⟨s6, rfl, by omega, ?_⟩)
            rw [show ((m : Int) / 128) = ((m / 128 : Nat) : Int) from by omega]
            refine ihm (m / 128) (by omega) (pre ++ [((m % 128 + 128 : Nat) : Int)]) s6 W4 ?_ ?_ ?_ ?_
            · rw [← hpre, lebU_big (by omega : ¬ m < 128)]; simp
            · rw [← List.append_assoc]; rw [show ((m : Int) % 128 + 128) = ((m % 128 + 128 : Nat) : Int) from by omega] at ho4; exact ho4
            · exact (hm2.transS hm3).trans hm4 (fun i hi hs => by have := hb2 i hs; omega)
            · intro b' hb'
              rcases hb4 b' hb' with h | h
              · exact hb2 b' h
              · have := hm3.size; have := hm2.size; omega
          · have hsm : m < 128 := by omega
            rw [wrap_u8, show ((m : Int) % 256) = (m : Int) from by omega]
            refine Na.mk fun b W3 hb3 hm3 _ hc3 => ?_
            refine app_bytes (ho2.mod0 hm3) ((one_byte hc3).src (Sub.self _)) (by simpa using hpl) (fun s6 W4 ho4 hm4 hb4 => ⟨s6, rfl, ?_⟩)
            rw [wrap_id (by omega) (by omega)]
            refine ih (k + 1) s6 W4 (by omega) hlt ?_ ?_ ?_
            · rw [List.take_succ_eq_append_getElem hlt, List.flatMap_append]
              simp only [List.flatMap_cons, List.flatMap_nil, List.append_nil]
              rw [← hpre, lebU_small hsm, ← List.append_assoc]; exact ho4
            · exact (hm2.transS hm3).trans hm4 (fun i hi hs => by have := hb2 i hs; omega)
            · intro b' hb'
              rcases hb4 b' hb' with h | h
              · exact hb2 b' h
              · have := hm3.size; have := hm2.size; omega
      have := inner xs[k].toNat [] s3 W1 rfl (by simpa using ho) hm hb
      rwa [Int.toNat_of_nonneg hx0.1] at this
  exact key xs.length 0 ⟨none, 0, 0⟩ W (by omega) (by omega) (Own.nil _ _ _) (Mod.refl _ _) (fun b hb => by obtain ⟨q, hq, _⟩ := hb; cases hq)
theorem PutS_spec {W : World} {r : Rd} {s : Sl} {xs : List Int} (hr : Sub r W) (h : SlOf 1 (IntR .i64) r s xs) (hx : ∀ x ∈ xs, -9223372036854775808 ≤ x ∧ x < 9223372036854775808) (hl : xs.length ≤ 1048576) :
    Calls Tryd.prog f_leb_PutS #[s.v] W fun e W' => ∃ s' : Sl, e = .returned s'.v ∧ Own W' ty_uint8 1 s' (bv (xs.flatMap lebS)) ∧ Mod NoB W W' ∧ (∀ b, s'.isB b → W.heap.size ≤ b) := by
  refine of_leb_PutS _ _ _ ?_
  unfold V_leb_PutS
  intro L hL
  have key : ∀ (n k : Nat) (s3 : Sl) (W1 : World), n = xs.length - k → k ≤ xs.length → Own W1 ty_uint8 1 s3 (bv ((xs.take k).flatMap lebS)) → Mod NoB W W1 → (∀ b, s3.isB b → W.heap.size ≤ b) → L s3 (k : Int) W1 := by
    intro n
    induction n with
    | zero =>
      intro k s3 W1 hn hk ho hm hb
      have hk : k = xs.length := by omega
      refine hL _ _ _ (Br.dec (fun hlt => ?_) (fun _ => ⟨_, rfl, by rw [hk, List.take_length] at ho; exact ho, hm, hb⟩))
      rw [h.1] at hlt; omega
    | succ n ih =>
      intro k s3 W1 hn hk ho hm hb
      have hlt : k < xs.length := by omega
      refine hL _ _ _ (Br.dec (fun _ => ?_) (fun hge => absurd (by rw [h.1]; omega) hge))
      obtain ⟨q, hq, hc⟩ := h.get hlt
      refine ⟨q, ⟨hq, by omega, by rw [h.1]; omega⟩, xs[k], (hr.mod0 hm) _ _ hc, ?_⟩
      intro L1 hL1
      have hx0 := hx xs[k] (List.getElem_mem hlt)
      have hlen : ∀ j, j ≤ xs.length → ((xs.take j).flatMap lebS).length ≤ 10 * j := by
        intro j
        induction j with
        | zero => intro _; simp
        | succ j ihj =>
          intro hj
          rw [List.take_succ_eq_append_getElem (by omega), List.flatMap_append, List.length_append]
          have h1 := ihj (by omega)
          have h2 : (lebS (xs[j]'(by omega))).length ≤ 10 := by have := hx _ (List.getElem_mem (show j < xs.length by omega)); exact lebS_len10 this.1 this.2
          rw [List.flatMap_cons, List.flatMap_nil, List.append_nil]; omega
      have inner : ∀ (d : Nat) (m : Int) (pre : List Int) (s5 : Sl) (W2 : World), m.natAbs = d → pre ++ lebS m = lebS xs[k] → Own W2 ty_uint8 1 s5 (bv (((xs.take k).flatMap lebS) ++ pre)) → Mod NoB W W2 → (∀ b, s5.isB b → W.heap.size ≤ b) → L1 s5 m W2 := by
        intro d
        induction d using Nat.strongRecOn with
        | _ d ihm =>
          intro m pre s5 W2 hd hpre ho2 hm2 hb2
          have hpl : (((xs.take k).flatMap lebS) ++ pre).length + 1 ≤ big := by
            have h1 := hlen k hk
            have h2 : (pre ++ lebS m).length ≤ 10 := by rw [hpre]; exact lebS_len10 hx0.1 hx0.2
            rw [List.length_append] at h2 ⊢
            unfold big; omega
          refine hL1 _ _ _ (Br.mk (fun hge => ?_) (fun hsm => ?_))
          · have hge : ¬ (-64 ≤ m ∧ m ≤ 63) := by simp at hge; omega
            rw [byte_or, fdiv128']
            refine Na.mk fun b W3 hb3 hm3 _ hc3 => ?_
            refine app_bytes (ho2.mod0 hm3) ((one_byte hc3).src (Sub.self _)) (by simpa using hpl) (fun s6 W4 ho4 hm4 hb4 => ⟨s6, rfl, by omega, ?_⟩)
            refine ihm (m / 128).natAbs (by omega) (m / 128) (pre ++ [m % 128 + 128]) s6 W4 rfl ?_ ?_ ?_ ?_
            · rw [← hpre, lebS_big hge]; simp
            · rw [← List.append_assoc]; exact ho4
            · exact (hm2.transS hm3).trans hm4 (fun i hi hs => by have := hb2 i hs; omega)
            · intro b' hb'
              rcases hb4 b' hb' with h | h
              · exact hb2 b' h
              · have := hm3.size; have := hm2.size; omega
          · have hsm : -64 ≤ m ∧ m ≤ 63 := by simp at hsm; omega
            rw [byte_and]
            refine Na.mk fun b W3 hb3 hm3 _ hc3 => ?_
            refine app_bytes (ho2.mod0 hm3) ((one_byte hc3).src (Sub.self _)) (by simpa using hpl) (fun s6 W4 ho4 hm4 hb4 => ⟨s6, rfl, ?_⟩)
            rw [wrap_id (by omega) (by omega)]
            refine ih (k + 1) s6 W4 (by omega) hlt ?_ ?_ ?_
            · rw [List.take_succ_eq_append_getElem hlt, List.flatMap_append]
              simp only [List.flatMap_cons, List.flatMap_nil, List.append_nil]
              rw [← hpre, lebS_small hsm, ← List.append_assoc]; exact ho4
            · exact (hm2.transS hm3).trans hm4 (fun i hi hs => by have := hb2 i hs; omega)
            · intro b' hb'
              rcases hb4 b' hb' with h | h
              · exact hb2 b' h
              · have := hm3.size; have := hm2.size; omega
      exact inner _ xs[k] [] s3 W1 rfl rfl (by simpa using ho) hm hb
  exact key xs.length 0 ⟨none, 0, 0⟩ W (by omega) (by omega) (Own.nil _ _ _) (Mod.refl _ _) (fun b hb => by obtain ⟨q, hq, _⟩ := hb; cases hq)

/-! ### The output of package encode -/
/-- The blocks 'F' hold an output: the bytes so far, and whether something can't be. -/
def OutAt (w : World) (q : Addr) (F : Nat → Prop) (bs : List Int) (bad : Bool) : Prop :=
  ∃ (ob : Nat) (s : Sl), q = ⟨ob, 0, none⟩ ∧ w.heap[ob]? = some (.cells #[s.v, .bool bad] ty_encode_out (0, 0)) ∧ Own w ty_uint8 1 s (bv bs) ∧ ¬ s.isB ob ∧ F ob ∧ (∀ b, s.isB b → F b) ∧ (∀ b, F b → b < w.heap.size)
def Grows (F : Nat → Prop) (W : World) (F' : Nat → Prop) : Prop := ∀ k, F' k → F k ∨ W.heap.size ≤ k
def OutPost (W : World) (q : Addr) (F : Nat → Prop) (bs' : List Int) (bad' : Bool) : Ending → World → Prop :=
  fun e W' => e = .returned (.tuple #[]) ∧ ∃ F', OutAt W' q F' bs' bad' ∧ Mod F W W' ∧ Grows F W F'
theorem heap_lt {w : World} {b : Nat} {o : Obj} (h : w.heap[b]? = some o) : b < w.heap.size := by
  rcases Nat.lt_or_ge b w.heap.size with h' | h'
  · exact h'
  · simp [Array.getElem?_eq_none h'] at h
theorem OutAt.mod {w w' : World} {q : Addr} {F S : Nat → Prop} {bs : List Int} {bad : Bool} (h : OutAt w q F bs bad) (m : Mod S w w') (hd : ∀ k, F k → ¬ S k) : OutAt w' q F bs bad := by
  obtain ⟨ob, s, rfl, hh, ho, hn, hF, hs, hl⟩ := h
  exact ⟨ob, s, rfl, by rw [m.block ob (hl ob hF) (hd ob hF)]; exact hh, ho.mod m (fun b hb => hd b (hs b hb)), hn, hF, hs, fun b hb => Nat.lt_of_lt_of_le (hl b hb) m.size⟩
theorem OutAt.mod0 {w w' : World} {q : Addr} {F : Nat → Prop} {bs : List Int} {bad : Bool} (h : OutAt w q F bs bad) (m : Mod NoB w w') : OutAt w' q F bs bad := h.mod m (fun _ _ h => h)
theorem OutAt.lt {w : World} {q : Addr} {F : Nat → Prop} {bs : List Int} {bad : Bool} (h : OutAt w q F bs bad) {k : Nat} (hk : F k) : k < w.heap.size := by
  obtain ⟨ob, s, rfl, hh, ho, hn, hF, hs, hl⟩ := h; exact hl k hk
theorem OutAt.has {w : World} {q : Addr} {F : Nat → Prop} {bs : List Int} {bad : Bool} (h : OutAt w q F bs bad) : F q.block := by
  obtain ⟨ob, s, rfl, hh, ho, hn, hF, hs, hl⟩ := h; exact hF
/-- What follows a step that ends in 'OutPost'. -/
theorem OutPost.go {W : World} {q : Addr} {F : Nat → Prop} {bs : List Int} {bad : Bool} {K : Value → World → Prop} {e : Ending} {W' : World} (h : OutPost W q F bs bad e W')
    (hk : ∀ F', OutAt W' q F' bs bad → Mod F W W' → Grows F W F' → K (.tuple #[]) W') : ∃ v, e = .returned v ∧ K v W' := by
  obtain ⟨rfl, F', h1, h2, h3⟩ := h; exact ⟨_, rfl, hk F' h1 h2 h3⟩
theorem Grows.refl (F : Nat → Prop) (W : World) : Grows F W F := fun _ h => .inl h
theorem Grows.trans {F G H : Nat → Prop} {W W' : World} (h : Grows F W G) (k : Grows G W' H) (hs : W.heap.size ≤ W'.heap.size) : Grows F W H :=
  fun i hi => (k i hi).elim (fun x => h i x) (fun x => .inr (Nat.le_trans hs x))
/-- Steps on one output, one behind the other. -/
theorem Mod.steps {F G : Nat → Prop} {a b c : World} (h : Mod F a b) (k : Mod G b c) (hg : Grows F a G) : Mod F a c :=
  h.trans k (fun i hi hG => (hg i hG).elim id (fun x => absurd hi (Nat.not_lt.2 x)))
theorem OutAt.setBad {w : World} {q : Addr} {F : Nat → Prop} {bs : List Int} {bad : Bool} (h : OutAt w q F bs bad) {b' : Bool} {K : World → Prop}
    (hk : ∀ w', OutAt w' q F bs b' → Mod F w w' → K w') : stC w (q.add 1) [.bool b'] 0 K := by
  obtain ⟨ob, s, rfl, hh, ho, hn, hF, hs, hl⟩ := h
  refine stC_at (b := ob) (o := 1) rfl hh (by simp) (by simp [Value.oneCell']) (fun w' h1 hm hsz => hk w' ⟨ob, s, rfl, h1, ho.mod hm (fun b hb e => hn (e ▸ hb)), hn, hF, hs, fun b hb => Nat.lt_of_lt_of_le (hl b hb) hm.size⟩ (hm.mono (fun i _ e => e ▸ hF)))
/-- The bytes get others behind them. -/
theorem OutAt.setB {w w1 : World} {q : Addr} {F : Nat → Prop} {bs bs' : List Int} {bad : Bool} {s0 s : Sl} (h : OutAt w q F bs bad) (hs0 : w.cell? (q.add 0) = some s0.v) (ho : Own w1 ty_uint8 1 s (bv bs')) (hm : Mod s0.isB w w1) (hb : ∀ b, s.isB b → s0.isB b ∨ w.heap.size ≤ b)
    {K : World → Prop} (hk : ∀ w' F', OutAt w' q F' bs' bad → Mod F w w' → Grows F w F' → K w') : stC w1 (q.add 0) [s.v] 0 K := by
  obtain ⟨ob, s1, rfl, hh, ho1, hn, hF, hs, hl⟩ := h
  have e : s1 = s0 := by
    have h1 : w.cell? ⟨ob, 0, none⟩ = some s1.v := cell_of_heap hh rfl
    rw [add_mk] at hs0
    rw [h1] at hs0
    obtain ⟨a, l, c⟩ := s1; obtain ⟨a', l', c'⟩ := s0
    simp [Sl.v] at hs0
    simp [hs0]
  subst e
  have hob : ob < w.heap.size := hl ob hF
  have hh1 : w1.heap[ob]? = some (.cells #[s1.v, .bool bad] ty_encode_out (0, 0)) := by rw [hm.block ob hob hn]; exact hh
  have hnb : ¬ s.isB ob := fun x => (hb ob x).elim hn (fun y => by omega)
  refine stC_at (b := ob) (o := 0) rfl hh1 (by simp) (by simp [Value.oneCell']) (fun w' h1 hm2 hsz => hk w' (fun k => F k ∨ s.isB k)
    ⟨ob, s, rfl, h1, ho.mod hm2 (fun b hb' e => hnb (e ▸ hb')), hnb, .inl hF, fun b hb' => .inr hb', fun b hb' => ?_⟩ ?_ ?_)
  · rcases hb' with h | h
    · exact Nat.lt_of_lt_of_le (hl b h) (Nat.le_trans hm.size hm2.size)
    · exact Nat.lt_of_lt_of_le (ho.lt h) hm2.size
  · exact (hm.mono (fun i _ h => hs i h)).trans hm2 (fun i _ e => e ▸ hF)
  · intro k hk
    rcases hk with h | h
    · exact .inl h
    · rcases hb k h with h | h
      · exact .inl (hs k h)
      · exact .inr h
theorem OutAt.open {w : World} {q : Addr} {F : Nat → Prop} {bs : List Int} {bad : Bool} (h : OutAt w q F bs bad) :
    ∃ s : Sl, w.cell? (q.add 0) = some s.v ∧ w.cell? (q.add 1) = some (.bool bad) ∧ (∀ i, w.frozen? (q.add i) = false) ∧ Own w ty_uint8 1 s (bv bs) ∧ (∀ b, s.isB b → F b) ∧ ¬ s.isB q.block := by
  obtain ⟨ob, s, rfl, hh, ho, hn, hF, hs, hl⟩ := h
  exact ⟨s, by rw [add_mk]; exact cell_of_heap hh rfl, by rw [add_mk]; exact cell_of_heap hh rfl, fun i => by rw [add_mk]; exact frozen_of_heap (p := ⟨ob, _, none⟩) hh, ho, hs, hn⟩

theorem must_spec {W : World} {q : Addr} {F : Nat → Prop} {bs : List Int} {bad ok : Bool} (h : OutAt W q F bs bad) :
    Calls Tryd.prog f_encode_out_must #[.pointer (some q), .bool ok] W (OutPost W q F bs (bad || !ok)) := by
  refine of_encode_out_must _ _ _ _ ?_
  unfold V_encode_out_must
  obtain ⟨s, h0, h1, hf, _⟩ := h.open
  exact ⟨q, rfl, bad, h1, q, rfl, h.setBad (fun W1 g1 g2 => ⟨rfl, F, g1, g2, Grows.refl _ _⟩)⟩
theorem bytes_spec {W : World} {q : Addr} {F : Nat → Prop} {bs : List Int} {bad : Bool} (h : OutAt W q F bs bad) {r : Rd} (hr : Sub r W) {s : Sl} {xs : List Int} (hx : Bytes r s xs) (hl : bs.length + xs.length ≤ big) :
    Calls Tryd.prog f_encode_out_bytes #[.pointer (some q), s.v] W (OutPost W q F (bs ++ xs) bad) := by
  refine of_encode_out_bytes _ _ _ _ ?_
  unfold V_encode_out_bytes
  obtain ⟨s0, h0, h1, hf, ho, hs0, hn⟩ := h.open
  refine ⟨q, rfl, s0, h0, ?_⟩
  exact app_bytes ho (hx.src hr) hl (fun s' W' ho' hm hb => ⟨s', rfl, q, rfl, h.setB h0 ho' hm hb (fun w' F' g1 g2 g3 => ⟨rfl, F', g1, g2, g3⟩)⟩)

/-! ### Numbers -/
theorem numE_len (n : Int) : (numE n).b.length ≤ 10 := lebU_len10 (by omega)
theorem numsE_len (l : List Int) : (numsE l).b.length ≤ 10 * l.length := by
  induction l with
  | nil => simp [numsE, E.cat, E.nil]
  | cons a r ih =>
    unfold numsE at ih ⊢
    rw [List.map_cons, E.cat]
    show ((numE a).b ++ (E.cat (r.map numE)).b).length ≤ _
    rw [List.length_append, List.length_cons]
    have := numE_len a
    omega
theorem E.app_b (x y : E) : (x.app y).b = x.b ++ y.b := rfl
theorem E.app_ok (x y : E) : (x.app y).ok = (x.ok && y.ok) := rfl
/-- A reading of memory outside the blocks 'F'. -/
structure Rds (r : Rd) (W : World) (F : Nat → Prop) : Prop where
  sub : Sub r W
  off : Off r F
theorem Rds.step {r : Rd} {W W' : World} {F F' : Nat → Prop} (h : Rds r W F) (m : Mod F W W') (g : Grows F W F') : Rds r W' F' :=
  ⟨h.sub.mod m h.off, fun p v hp hF => (g _ hF).elim (h.off p v hp) (fun x => absurd (lt_of_cell (h.sub p v hp)) (Nat.not_lt.2 x))⟩
theorem Rds.mod0 {r : Rd} {W W' : World} {F : Nat → Prop} (h : Rds r W F) (m : Mod NoB W W') : Rds r W' F := ⟨h.sub.mod0 m, h.off⟩
theorem Rds.all (W : World) (F : Nat → Prop) : Rds (offS W F) W F := ⟨offS_sub W F, offS_off W F⟩
theorem Rds.le {r : Rd} {W : World} {F : Nat → Prop} (h : Rds r W F) : Le r (offS W F) := fun p v hp => offS_of (h.sub p v hp) (h.off p v hp)
/-- A reading goes on in whatever is read now. -/
theorem Rds.into {r : Rd} {W W' : World} {F : Nat → Prop} (h : Rds r W F) (m : Mod NoB W W') : Le r (offS W' F) := (h.mod0 m).le
/-- The steps of a walk on one output, so far; 'F' holds it now. -/
structure OutSt (W0 : World) (q : Addr) (F0 : Nat → Prop) (bs : List Int) (bad : Bool) (x : E) (W : World) (F : Nat → Prop) : Prop where
  out : OutAt W q F (bs ++ x.b) (bad || !x.ok)
  mod : Mod F0 W0 W
  grows : Grows F0 W0 F
theorem OutSt.start {W : World} {q : Addr} {F : Nat → Prop} {bs : List Int} {bad : Bool} (h : OutAt W q F bs bad) : OutSt W q F bs bad E.nil W F :=
  ⟨by simpa [E.nil] using h, Mod.refl _ _, Grows.refl _ _⟩
section
variable {W0 W : World} {q : Addr} {F0 F : Nat → Prop} {bs : List Int} {bad : Bool} {x : E}
theorem OutSt.mod0 {W' : World} (h : OutSt W0 q F0 bs bad x W F) (m : Mod NoB W W') : OutSt W0 q F0 bs bad x W' F := ⟨h.out.mod0 m, h.mod.trans0 m, h.grows⟩
theorem OutSt.size (h : OutSt W0 q F0 bs bad x W F) : W0.heap.size ≤ W.heap.size := h.mod.size
theorem OutSt.rds (h : OutSt W0 q F0 bs bad x W F) {r : Rd} (hr : Rds r W0 F0) : Rds r W F := hr.step h.mod h.grows
/-- A new block is none of the output's. -/
theorem OutSt.new {W' : World} {b : Nat} (h : OutSt W0 q F0 bs bad x W F) (hb : b = W.heap.size) : ¬ F b := fun hF => by have := h.out.lt hF; omega
/-- A call that does a further step. -/
theorem OutSt.step (h : OutSt W0 q F0 bs bad x W F) {f : FuncId} (he : Ent Tryd.prog f) {args : Array Value} {bs' : List Int} {ok : Bool}
    (hc : Calls Tryd.prog f args W (OutPost W q F (bs ++ x.b ++ bs') ((bad || !x.ok) || !ok))) {K : Value → World → Prop}
    (hk : ∀ W' F', OutSt W0 q F0 bs bad (x.app ⟨bs', ok⟩) W' F' → Mod F W W' → Grows F W F' → K (.tuple #[]) W') : CallV Tryd.prog f args W K := by
  refine CallV.mk he hc (fun e W' hp => hp.go (fun F' g1 g2 g3 => hk W' F' ⟨?_, h.mod.steps g2 h.grows, h.grows.trans g3 h.size⟩ g2 g3))
  rw [E.app_b, E.app_ok]
  have e2 : (bad || !(x.ok && ok)) = ((bad || !x.ok) || !ok) := by cases bad <;> cases x.ok <;> cases ok <;> rfl
  rw [e2, ← List.append_assoc]; exact g1
theorem OutSt.done (h : OutSt W0 q F0 bs bad x W F) : OutPost W0 q F0 (bs ++ x.b) (bad || !x.ok) (.returned (.tuple #[])) W := ⟨rfl, F, h.out, h.mod, h.grows⟩
theorem OutSt.must (h : OutSt W0 q F0 bs bad x W F) {ok : Bool} {K : Value → World → Prop}
    (hk : ∀ W' F', OutSt W0 q F0 bs bad (x.app ⟨[], ok⟩) W' F' → Mod F W W' → Grows F W F' → K (.tuple #[]) W') : CallV Tryd.prog f_encode_out_must #[.pointer (some q), .bool ok] W K :=
  h.step ent_encode_out_must (bs' := []) (by rw [List.append_nil]; exact must_spec h.out) hk
/-- One byte more. -/
theorem OutSt.byte (h : OutSt W0 q F0 bs bad x W F) {n : Int} (hl : bs.length + x.b.length + 1 ≤ big) {K : Value → World → Prop}
    (hk : ∀ W' F', OutSt W0 q F0 bs bad (x.app ⟨[n], true⟩) W' F' → Mod F W W' → Grows F W F' → K (.tuple #[]) W') :
    Na W #[.int .u8 n] ty_uint8 fun a W1 => CallV Tryd.prog f_encode_out_bytes #[.pointer (some q), .slice (some a) 1 1] W1 K := by
  refine Na.mk fun b W1 hb hm hs hc => ?_
  refine (h.mod0 hm).step ent_encode_out_bytes (bs' := [n]) (ok := true) ?_ (fun W' F' h1 h2 h3 => hk W' F' h1 ((Mod.of0 hm).transS h2) (fun i hi => (h3 i hi).imp id (fun x => Nat.le_trans hm.size x)))
  rw [Bool.not_true, Bool.or_false]
  exact bytes_spec (s := ⟨some ⟨b, 0, none⟩, 1, 1⟩) (h.out.mod0 hm) (Sub.self _) (one_byte hc) (by rw [List.length_append, List.length_singleton]; omega)
end
end Go.Proofs.YtacjnpahlbibhaaDoor

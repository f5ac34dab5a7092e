/- Plain laws: the bytes of a module that has grown. No program in sight. -/
import Derived.Test.YtacjnpahlbibhaaDoorWkS
set_option linter.unusedVariables false
set_option linter.unusedSimpArgs false
set_option maxRecDepth 100000
namespace Go.Proofs.YtacjnpahlbibhaaDoor

theorem lebU_mono (b : Nat) : ∀ a, a ≤ b → (lebU a).length ≤ (lebU b).length := by
  induction b using Nat.strongRecOn with
  | _ b ih =>
    intro a hab
    by_cases hb : b < 128
    · rw [lebU_small hb, lebU_small (show a < 128 by omega)]; simp
    · by_cases ha : a < 128
      · rw [lebU_small ha, lebU_big hb]; simp
      · rw [lebU_big ha, lebU_big hb, List.length_cons, List.length_cons]
        have := ih (b / 128) (by omega) (a / 128) (Nat.div_le_div_right hab)
        omega
theorem numE_nat {n : Nat} (h : n < 18446744073709551616) : (numE (n : Int)).b = lebU n := by
  unfold numE
  show lebU ((n : Int) % 18446744073709551616).toNat = _
  rw [Int.emod_eq_of_lt (by omega) (by omega)]; rfl
theorem numE_okN {n : Nat} : (numE (n : Int)).ok = decide (n < 4294967296) := by
  unfold numE
  simp only
  by_cases h : n < 4294967296
  · rw [decide_eq_true (show (0 : Int) ≤ n by omega), decide_eq_true (show (n : Int) < 4294967296 by omega), decide_eq_true h]; rfl
  · rw [decide_eq_false (show ¬ (n : Int) < 4294967296 by omega), decide_eq_false h, Bool.and_false]
theorem numE_mono {a b : Nat} (h : a ≤ b) (hb : b < 18446744073709551616) : (numE (a : Int)).b.length ≤ (numE (b : Int)).b.length := by
  rw [numE_nat hb, numE_nat (show a < 18446744073709551616 by omega)]; exact lebU_mono b a h
/-- How long the parts are. -/
def catL {α : Type} (one : α → E) (xs : List α) : Nat := (E.cat (xs.map one)).b.length
theorem catL_nil {α : Type} (one : α → E) : catL one [] = 0 := rfl
theorem catL_cons {α : Type} (one : α → E) (x : α) (xs : List α) : catL one (x :: xs) = (one x).b.length + catL one xs := by
  unfold catL; rw [List.map_cons, E.cat, E.app_b, List.length_append]
theorem catL_append {α : Type} (one : α → E) (xs ys : List α) : catL one (xs ++ ys) = catL one xs + catL one ys := by
  unfold catL; rw [List.map_append, E.cat_append, E.app_b, List.length_append]
theorem catL_mem {α : Type} (one : α → E) {x : α} {xs : List α} (h : x ∈ xs) : (one x).b.length ≤ catL one xs := by
  induction xs with
  | nil => cases h
  | cons y r ih =>
    rw [catL_cons]
    rcases List.mem_cons.1 h with rfl | h
    · omega
    · have := ih h; omega
theorem catOk {α : Type} {one : α → E} {xs : List α} (h : ∀ x ∈ xs, (one x).ok = true) : (E.cat (xs.map one)).ok = true := by
  induction xs with
  | nil => rfl
  | cons x r ih => rw [List.map_cons, E.cat, E.app_ok, h x (by simp), ih (fun y hy => h y (by simp [hy]))]; rfl
theorem catL_set {α : Type} (one : α → E) (y : α) : ∀ (xs : List α) (i : Nat), catL one (xs.set i y) ≤ catL one xs + (one y).b.length := by
  intro xs
  induction xs with
  | nil => intro i; simp [catL_nil]
  | cons x r ih =>
    intro i
    cases i with
    | zero => rw [List.set_cons_zero, catL_cons, catL_cons]; omega
    | succ i => rw [List.set_cons_succ, catL_cons, catL_cons]; have := ih i; omega
theorem catL_set_mono {α : Type} (one : α → E) {y z : α} (h : (one y).b.length ≤ (one z).b.length) : ∀ (xs : List α) (i : Nat), catL one (xs.set i y) ≤ catL one (xs.set i z) := by
  intro xs
  induction xs with
  | nil => intro i; simp
  | cons x r ih =>
    intro i
    cases i with
    | zero => rw [List.set_cons_zero, List.set_cons_zero, catL_cons, catL_cons]; omega
    | succ i => rw [List.set_cons_succ, List.set_cons_succ, catL_cons, catL_cons]; have := ih i; omega
/-! ### Rows of parts -/
theorem secE_ne {α : Type} {id most : Int} {one : α → E} {xs : List α} (hne : xs ≠ []) (hl : xs.length < 4294967296) :
    (secE id most one xs).b.length = 1 + (numE (((numE xs.length).b.length + catL one xs : Nat) : Int)).b.length + ((numE xs.length).b.length + catL one xs) ∧
    ((secE id most one xs).ok = true ↔ ((xs.length : Int) ≤ most ∧ (E.cat (xs.map one)).ok = true ∧ (numE xs.length).b.length + catL one xs < 4294967296)) := by
  have hem : xs.isEmpty = false := by
    cases xs with
    | nil => exact absurd rfl hne
    | cons a r => rfl
  have e1 : ((numE xs.length).app (E.cat (xs.map one))).b.length = (numE xs.length).b.length + catL one xs := by rw [E.app_b, List.length_append]; rfl
  have e2 : ((numE xs.length).app (E.cat (xs.map one))).ok = (E.cat (xs.map one)).ok := by
    rw [E.app_ok, numE_okN, decide_eq_true hl, Bool.true_and]
  constructor
  · simp only [secE, hem, Bool.false_eq_true, if_false, E.app_b, List.length_append, List.length_cons, List.length_nil]
    rw [show (numE xs.length).b.length + (E.cat (xs.map one)).b.length = (numE xs.length).b.length + catL one xs from rfl]
    omega
  · have e3 : (secE id most one xs).ok = (decide ((xs.length : Int) ≤ most) && ((E.cat (xs.map one)).ok && decide ((numE xs.length).b.length + catL one xs < 4294967296))) := by
      simp only [secE, hem, Bool.false_eq_true, if_false]
      rw [e1, ← numE_okN, ← e2]
      simp only [E.app_ok, Bool.and_true]
    rw [e3]
    simp only [Bool.and_eq_true, decide_eq_true_eq]
theorem secE_nil {α : Type} {id most : Int} {one : α → E} : (secE id most one []).b = [] := by
  simp [secE, E.app, E.nil]
theorem secE_cat_le {α : Type} {id most : Int} {one : α → E} {xs : List α} (hl : xs.length < 4294967296) : catL one xs ≤ (secE id most one xs).b.length := by
  by_cases hne : xs = []
  · subst hne; simp [catL_nil]
  · rw [(secE_ne hne hl).1]; omega
theorem secE_make {α : Type} {id most : Int} {one : α → E} {xs : List α} (hm : (xs.length : Int) ≤ most) (hl : xs.length < 4294967296) (hok : ∀ x ∈ xs, (one x).ok = true) (hc : catL one xs ≤ 1048576) : (secE id most one xs).ok = true := by
  by_cases hne : xs = []
  · subst hne
    have : decide ((0 : Int) ≤ most) = true := decide_eq_true (by simpa using hm)
    simp [secE, E.app, E.nil, this]
  · refine (secE_ne hne hl).2.2 ⟨hm, catOk hok, ?_⟩
    have := numE_len xs.length
    omega
theorem secE_mono {α : Type} {id most : Int} {one : α → E} {xs ys : List α} (hlen : xs.length = ys.length) (hl : ys.length < 4294967296) (hok : ∀ x ∈ xs, (one x).ok = true) (hc : catL one xs ≤ catL one ys) (h : (secE id most one ys).ok = true) :
    (secE id most one xs).ok = true ∧ (secE id most one xs).b.length ≤ (secE id most one ys).b.length := by
  by_cases hne : xs = []
  · subst hne
    have : ys = [] := List.eq_nil_of_length_eq_zero hlen.symm
    subst this
    exact ⟨h, Nat.le_refl _⟩
  · have hne2 : ys ≠ [] := by intro e; subst e; exact hne (List.eq_nil_of_length_eq_zero hlen)
    obtain ⟨a1, a2, a3⟩ := (secE_ne hne2 hl).2.1 h
    obtain ⟨l1, o1⟩ := secE_ne (id := id) (most := most) (one := one) hne (by omega)
    obtain ⟨l2, o2⟩ := secE_ne (id := id) (most := most) (one := one) hne2 hl
    rw [hlen] at l1 o1
    refine ⟨o1.2 ⟨a1, catOk hok, by omega⟩, ?_⟩
    rw [l1, l2]
    have := numE_mono (a := (numE ys.length).b.length + catL one xs) (b := (numE ys.length).b.length + catL one ys) (by omega) (by omega)
    omega
/-! ### Bodies -/
/-- Opcodes that open, part or close no block. -/
def flatOp (op : Int) : Prop := ¬ (op = 2 ∨ op = 3 ∨ op = 4) ∧ op ≠ 5 ∧ op ≠ 11
theorem closedGo_flat {op : Int} (h : flatOp op) (r st : List Int) : closedGo (op :: r) st = closedGo r st := by
  rw [closedGo, if_neg h.1, if_neg h.2.1, if_neg h.2.2]
theorem writeE_okb {l : List Instr} : (writeE l).ok = (closedOk l && (E.cat (l.map instrE)).ok) := by
  unfold writeE
  cases h1 : closedOk l <;> cases h2 : (E.cat (l.map instrE)).ok <;> simp [h1, h2]
theorem writeE_b {l : List Instr} (h : (writeE l).ok = true) : (writeE l).b = (E.cat (l.map instrE)).b := by
  rw [writeE_okb] at h
  unfold writeE; rw [if_pos h]
theorem writeE_pre {x1 x2 : Instr} {l : List Instr} (h : (writeE l).ok = true) (f1 : flatOp x1.op) (f2 : flatOp x2.op) (o1 : (instrE x1).ok = true) (o2 : (instrE x2).ok = true) :
    (writeE (x1 :: x2 :: l)).ok = true ∧ (writeE (x1 :: x2 :: l)).b.length = (instrE x1).b.length + (instrE x2).b.length + (writeE l).b.length := by
  have hb := writeE_b h
  have h' := h
  rw [writeE_okb, Bool.and_eq_true] at h'
  have ho : (writeE (x1 :: x2 :: l)).ok = true := by
    rw [writeE_okb, Bool.and_eq_true]
    refine ⟨?_, ?_⟩
    · unfold closedOk at h' ⊢
      rw [List.map_cons, List.map_cons, closedGo_flat f1, closedGo_flat f2]; exact h'.1
    · rw [List.map_cons, List.map_cons, E.cat, E.cat, E.app_ok, E.app_ok, o1, o2, h'.2]; rfl
  refine ⟨ho, ?_⟩
  rw [writeE_b ho, hb, List.map_cons, List.map_cons, E.cat, E.cat, E.app_b, E.app_b, List.length_append, List.length_append]; omega
theorem bodyE_lenq (c : Code) : (bodyE c).b.length = (numE (bndTo c.locals c.locals.length : Nat)).b.length + (runsE c.locals).b.length + (writeE c.body).b.length := by
  unfold bodyE; rw [E.app_b, E.app_b, List.length_append, List.length_append]
theorem codeE_lenq (c : Code) : (codeE c).b.length = (numE ((bodyE c).b.length : Nat)).b.length + (bodyE c).b.length := by
  unfold codeE; simp only [E.app_b, List.length_append, List.length_nil]; omega
theorem codeE_okb (c : Code) : (codeE c).ok = true ↔ ((c.locals.length : Int) ≤ 512 ∧ (bodyE c).ok = true ∧ (bodyE c).b.length < 4294967296) := by
  unfold codeE
  simp only [E.app_ok, Bool.and_eq_true, decide_eq_true_eq, numE_okN, Bool.and_true, and_assoc]
theorem bodyE_okb (c : Code) : (bodyE c).ok = (((numE (bndTo c.locals c.locals.length : Nat)).ok && (runsE c.locals).ok) && (writeE c.body).ok) := by
  unfold bodyE; rw [E.app_ok, E.app_ok]
/-- A body with two instructions ahead of it. -/
def preC (x1 x2 : Instr) (c : Code) : Code := ⟨c.locals, x1 :: x2 :: c.body⟩
theorem codeE_pre {c : Code} (hc : (codeE c).ok = true) (hl : (bodyE c).b.length ≤ 100000) {x1 x2 : Instr} (f1 : flatOp x1.op) (f2 : flatOp x2.op) (o1 : (instrE x1).ok = true) (o2 : (instrE x2).ok = true)
    (l12 : (instrE x1).b.length + (instrE x2).b.length ≤ 100) :
    (codeE (preC x1 x2 c)).ok = true ∧ (bodyE (preC x1 x2 c)).b.length = (bodyE c).b.length + ((instrE x1).b.length + (instrE x2).b.length) := by
  obtain ⟨h1, h2, h3⟩ := (codeE_okb c).1 hc
  rw [bodyE_okb, Bool.and_eq_true] at h2
  obtain ⟨w1, w2⟩ := writeE_pre h2.2 f1 f2 o1 o2
  have hb : (bodyE (preC x1 x2 c)).b.length = (bodyE c).b.length + ((instrE x1).b.length + (instrE x2).b.length) := by
    rw [bodyE_lenq, bodyE_lenq]
    show (numE (bndTo c.locals c.locals.length : Nat)).b.length + (runsE c.locals).b.length + (writeE (x1 :: x2 :: c.body)).b.length = _
    rw [w2]; omega
  refine ⟨(codeE_okb _).2 ⟨h1, ?_, by omega⟩, hb⟩
  rw [bodyE_okb]
  show (((numE (bndTo c.locals c.locals.length : Nat)).ok && (runsE c.locals).ok) && (writeE (x1 :: x2 :: c.body)).ok) = true
  rw [w1, h2.1]; rfl
theorem codeE_mono {a b : Code} (h : (bodyE a).b.length ≤ (bodyE b).b.length) (hb : (bodyE b).b.length < 4294967296) : (codeE a).b.length ≤ (codeE b).b.length := by
  rw [codeE_lenq, codeE_lenq]
  have := numE_mono h (by omega)
  omega
/-! ### The four modules -/
def iGet (a : Int) : Instr := ⟨32, a, 0, 0, 0, []⟩
def iDrop : Instr := ⟨26, 0, 0, 0, 0, []⟩
def iZero : Instr := ⟨65, 0, 0, 0, 0, []⟩
def gNew : Global := ⟨123, false, [⟨64780, 0, 0, 0, 0, []⟩, ⟨11, 0, 0, 0, 0, []⟩]⟩
def sNew : Sig := ⟨[123], []⟩
/-- A type more, a global more, and a body of one's own. -/
def grown (m : Module) (i : Nat) (c : Code) : Module := { m with types := m.types ++ [sNew], globals := m.globals ++ [gNew], codes := m.codes.set i c }
theorem instrE_of {x : Instr} {f : Int} (h1 : (instrOf x.op).2 = true) (h2 : (instrOf x.op).1.form = f) (h3 : restOk x f = true) : instrE x = E.app ⟨opB x.op, true⟩ (argE x f) := by
  unfold instrE
  simp only [h1, h2, h3, Bool.not_true, Bool.or_self, Bool.false_eq_true, if_false]
theorem iDrop_e : instrE iDrop = ⟨[26], true⟩ := by
  rw [instrE_of (x := iDrop) (f := 1) (by decide +kernel) (by decide +kernel) (by decide +kernel)]
  rfl
theorem iZero_e : (instrE iZero).ok = true ∧ (instrE iZero).b.length = 2 := by
  rw [instrE_of (x := iZero) (f := 9) (by decide +kernel) (by decide +kernel) (by decide +kernel)]
  have h : argE iZero 9 = ⟨lebS 0, true⟩ := by rfl
  rw [h]
  have h0 : lebS 0 = [0] := by rw [lebS]; rfl
  rw [h0]
  exact ⟨rfl, rfl⟩
theorem iGet_e (a : Int) : instrE (iGet a) = E.app ⟨[32], true⟩ (numE a) := by
  rw [instrE_of (x := iGet a) (f := 5) (by show (instrOf 32).2 = true; decide +kernel) (by show (instrOf 32).1.form = 5; decide +kernel) (by simp [restOk, iGet, useA, useB, useLo, useHi])]
  rfl
theorem iLong_e : (instrE (iGet 1048576)).ok = true ∧ (instrE (iGet 1048576)).b.length = 4 := by
  rw [iGet_e]
  have h : (numE 1048576).b = [128, 128, 64] := by
    have := numE_nat (n := 1048576) (by omega)
    have e : ((1048576 : Nat) : Int) = 1048576 := rfl
    rw [e] at this
    rw [this, lebU_big (by omega), lebU_big (by omega), lebU_small (by omega)]
    rfl
  have h2 : (numE 1048576).ok = true := by decide
  rw [E.app_ok, E.app_b, h, h2]
  exact ⟨rfl, rfl⟩
theorem iGet_small {k : Nat} (hk : k < 16384) : (instrE (iGet k)).ok = true ∧ (instrE (iGet k)).b.length ≤ 3 := by
  rw [iGet_e, E.app_ok, E.app_b, numE_okN, numE_nat (by omega), decide_eq_true (by omega), List.length_append]
  have := lebU_len 1 k (by omega)
  refine ⟨rfl, ?_⟩
  show 1 + _ ≤ _
  omega
theorem sNew_e : (sigE sNew).ok = true ∧ (sigE sNew).b.length ≤ 100 := by
  refine ⟨by decide +kernel, ?_⟩
  have h1 := numE_len (sNew.ins.length : Nat)
  have h2 := numE_len (sNew.outs.length : Nat)
  have h3 : (kindsE sNew.ins).b.length = 1 := by decide +kernel
  have h4 : (kindsE sNew.outs).b.length = 0 := by decide +kernel
  unfold sigE
  simp only [E.app_b, List.length_append, List.length_cons, List.length_nil]
  omega
theorem iVec_e : (instrE ⟨64780, 0, 0, 0, 0, []⟩).ok = true ∧ (instrE ⟨64780, 0, 0, 0, 0, []⟩).b.length ≤ 40 := by
  rw [instrE_of (x := ⟨64780, 0, 0, 0, 0, []⟩) (f := 11) (by decide +kernel) (by decide +kernel) (by decide +kernel)]
  have h1 : (argE ⟨64780, 0, 0, 0, 0, []⟩ 11).ok = true := rfl
  have h2 : (argE ⟨64780, 0, 0, 0, 0, []⟩ 11).b = joinB 0 0 := rfl
  have h3 : (opB 64780).length ≤ 4 := by
    have := lebU_len 1 12 (by decide)
    have e : opB 64780 = 253 :: lebU 12 := rfl
    rw [e, List.length_cons]; omega
  rw [E.app_ok, E.app_b, h1, h2, List.length_append, joinB_len]
  refine ⟨rfl, ?_⟩
  show (opB 64780).length + 16 ≤ 40
  omega
theorem iEnd_e : instrE ⟨11, 0, 0, 0, 0, []⟩ = ⟨[11], true⟩ := by
  rw [instrE_of (x := ⟨11, 0, 0, 0, 0, []⟩) (f := 1) (by decide +kernel) (by decide +kernel) (by decide +kernel)]
  rfl
theorem gNew_e : (globalE gNew).ok = true ∧ (globalE gNew).b.length ≤ 100 := by
  obtain ⟨v1, v2⟩ := iVec_e
  have hw : (writeE gNew.init).ok = true := by
    rw [writeE_okb, Bool.and_eq_true]
    refine ⟨by decide +kernel, ?_⟩
    show (E.app _ (E.app _ _)).ok = true
    rw [E.app_ok, E.app_ok, v1, iEnd_e]; rfl
  have hb : (writeE gNew.init).b.length ≤ 50 := by
    rw [writeE_b hw]
    show (E.app _ (E.app _ _)).b.length ≤ _
    rw [E.app_b, E.app_b, List.length_append, List.length_append, iEnd_e]
    show _ + (1 + 0) ≤ 50
    omega
  unfold globalE
  rw [E.app_ok, E.app_ok, E.app_b, E.app_b, hw, List.length_append, List.length_append]
  have h3 : (kindsE [gNew.type]).b.length = 1 := by decide +kernel
  have h4 : (kindsE [gNew.type]).ok = true := by decide +kernel
  rw [h3, h4]
  refine ⟨rfl, ?_⟩
  simp only [List.length_cons, List.length_nil]; omega
theorem grown_le {m : Module} {i : Nat} {c d : Code} (hs : ∀ x ∈ m.codes, (codeE x).ok = true) (hn : m.codes.length ≤ 512) (hc : (codeE c).ok = true) (hl : (codeE c).b.length ≤ (codeE d).b.length) (h : (encE (grown m i d)).ok = true) :
    (encE (grown m i c)).ok = true ∧ (encE (grown m i c)).b.length ≤ (encE (grown m i d)).b.length := by
  have hm : (secE 10 512 codeE (m.codes.set i d)).ok = true → (secE 10 512 codeE (m.codes.set i c)).ok = true ∧ (secE 10 512 codeE (m.codes.set i c)).b.length ≤ (secE 10 512 codeE (m.codes.set i d)).b.length := fun h =>
    secE_mono (by simp) (by rw [List.length_set]; omega) (fun x hx => by
      rcases List.mem_or_eq_of_mem_set hx with hx | rfl
      · exact hs x hx
      · exact hc) (catL_set_mono codeE hl m.codes i) h
  simp only [encE, encPre, grown, E.app_ok, E.app_b, Bool.and_eq_true, List.length_append, List.length_set] at h ⊢
  obtain ⟨h1, h2⟩ := hm h.1.2
  exact ⟨⟨⟨h.1.1, h1⟩, h.2⟩, by omega⟩
theorem grown_ok {m : Module} {i : Nat} {d : Code} (h : (encE m).ok = true) (hl : (encE m).b.length ≤ 16384) (ht : m.types.length < 256) (hg : m.globals.length < 512) (hd : (codeE d).ok = true) (hdl : (codeE d).b.length ≤ 100000) :
    (encE (grown m i d)).ok = true := by
  simp only [encE, encPre, E.app_ok, E.app_b, Bool.and_eq_true, List.length_append] at h hl
  obtain ⟨⟨⟨⟨⟨⟨⟨⟨⟨⟨⟨⟨h0, h1⟩, h2⟩, h3⟩, h4⟩, h5⟩, h6⟩, h7⟩, h8⟩, hs⟩, h9⟩, h10⟩, h11⟩ := h
  obtain ⟨_, t2⟩ := secE_ok' h1
  obtain ⟨_, g2⟩ := secE_ok' h6
  obtain ⟨c1, c2⟩ := secE_ok' h10
  obtain ⟨s1, s2⟩ := sNew_e
  obtain ⟨n1, n2⟩ := gNew_e
  have lt := secE_cat_le (id := 1) (most := 256) (one := sigE) (xs := m.types) (by omega)
  have lg := secE_cat_le (id := 6) (most := 512) (one := globalE) (xs := m.globals) (by omega)
  have lc := secE_cat_le (id := 10) (most := 512) (one := codeE) (xs := m.codes) (by omega)
  have e1 : (secE 1 256 sigE (m.types ++ [sNew])).ok = true :=
    secE_make (by rw [List.length_append, List.length_singleton]; omega) (by rw [List.length_append, List.length_singleton]; omega) (fun x hx => by
      rcases List.mem_append.1 hx with hx | hx
      · exact t2 x hx
      · simp at hx; subst hx; exact s1) (by rw [catL_append, catL_cons, catL_nil]; omega)
  have e6 : (secE 6 512 globalE (m.globals ++ [gNew])).ok = true :=
    secE_make (by rw [List.length_append, List.length_singleton]; omega) (by rw [List.length_append, List.length_singleton]; omega) (fun x hx => by
      rcases List.mem_append.1 hx with hx | hx
      · exact g2 x hx
      · simp at hx; subst hx; exact n1) (by rw [catL_append, catL_cons, catL_nil]; omega)
  have e10 : (secE 10 512 codeE (m.codes.set i d)).ok = true :=
    secE_make (by rw [List.length_set]; exact c1) (by rw [List.length_set]; omega) (fun x hx => by
      rcases List.mem_or_eq_of_mem_set hx with hx | rfl
      · exact c2 x hx
      · exact hd) (by have := catL_set codeE d m.codes i; omega)
  simp only [encE, encPre, grown, E.app_ok, Bool.and_eq_true, List.length_set]
  exact ⟨⟨⟨⟨⟨⟨⟨⟨⟨⟨⟨⟨h0, e1⟩, h2⟩, h3⟩, h4⟩, h5⟩, e6⟩, h7⟩, h8⟩, hs⟩, h9⟩, e10⟩, h11⟩
/-- What is known of the four grown modules' bytes. -/
theorem grown_enc {m : Module} (h : encR m = 0) (hsm : Small m) (ht : m.types.length < 256) (hg : m.globals.length < 512) {i : Nat} (hi : i < m.codes.length) (k : Nat) (hk : k < 16384)
    (hlong : encR (grown m i (preC (iGet 1048576) iDrop m.codes[i])) ≠ 4) :
    encR (grown m i m.codes[i]) = 0 ∧ encR (grown m i (preC (iGet k) iDrop m.codes[i])) = 0 ∧ encR (grown m i (preC iZero iDrop m.codes[i])) = 0 := by
  have hok : (encE m).ok = true := by
    unfold encR at h
    split at h
    · assumption
    · omega
  have hlen : (encE m).b.length ≤ 16376 := by
    unfold encR at h
    rw [if_pos hok] at h
    split at h
    · cases h
    · rename_i hn
      rw [List.length_append] at hn
      have : magicB.length = 8 := rfl
      omega
  have hparts := hok
  have hlp := hlen
  simp only [encE, encPre, E.app_ok, E.app_b, Bool.and_eq_true, List.length_append] at hparts hlp
  obtain ⟨c1, c2⟩ := secE_ok' hparts.1.2
  have lc := secE_cat_le (id := 10) (most := 512) (one := codeE) (xs := m.codes) (by omega)
  have hci := c2 _ (List.getElem_mem hi)
  have hcl : (codeE m.codes[i]).b.length ≤ 16384 := Nat.le_trans (catL_mem codeE (List.getElem_mem hi)) (by omega)
  have hbl : (bodyE m.codes[i]).b.length ≤ 16384 := by
    have := codeE_lenq m.codes[i]
    omega
  obtain ⟨c0, hc0⟩ : ∃ c0, c0 = m.codes[i] := ⟨_, rfl⟩
  rw [← hc0] at hci hcl hbl hlong ⊢
  have fD : flatOp iDrop.op := by unfold flatOp iDrop; simp
  have fG : ∀ a, flatOp (iGet a).op := fun a => by unfold flatOp iGet; simp
  have fZ : flatOp iZero.op := by unfold flatOp iZero; simp
  obtain ⟨l1, l2⟩ := iLong_e
  obtain ⟨k1, k2⟩ := iGet_small hk
  obtain ⟨z1, z2⟩ := iZero_e
  have d1 : (instrE iDrop).ok = true := by rw [iDrop_e]
  have d2 : (instrE iDrop).b.length = 1 := by rw [iDrop_e]; rfl
  obtain ⟨pl, bl⟩ := codeE_pre hci (by omega) (fG 1048576) fD l1 d1 (by omega)
  obtain ⟨pk, bk⟩ := codeE_pre hci (by omega) (fG k) fD k1 d1 (by omega)
  obtain ⟨pz, bz⟩ := codeE_pre hci (by omega) fZ fD z1 d1 (by omega)
  have hll := codeE_lenq (preC (iGet 1048576) iDrop c0)
  have hnl := numE_len ((bodyE (preC (iGet 1048576) iDrop c0)).b.length : Nat)
  have gl := grown_ok (i := i) hok (by omega) ht hg pl (by omega)
  have hL : (magicB ++ (encE (grown m i (preC (iGet 1048576) iDrop c0))).b).length ≤ 16384 := by
    unfold encR at hlong
    rw [if_pos gl] at hlong
    split at hlong
    · exact absurd rfl hlong
    · rename_i hn
      omega
  have fin : ∀ c : Code, (codeE c).ok = true → (bodyE c).b.length ≤ (bodyE (preC (iGet 1048576) iDrop c0)).b.length → encR (grown m i c) = 0 := by
    intro c hc hb
    obtain ⟨o, l⟩ := grown_le (i := i) c2 (by omega) hc (codeE_mono hb (by omega)) gl
    unfold encR
    rw [if_pos o, if_neg]
    rw [List.length_append] at hL ⊢
    omega
  exact ⟨fin _ hci (by omega), fin _ pk (by omega), fin _ pz (by omega)⟩
end Go.Proofs.YtacjnpahlbibhaaDoor

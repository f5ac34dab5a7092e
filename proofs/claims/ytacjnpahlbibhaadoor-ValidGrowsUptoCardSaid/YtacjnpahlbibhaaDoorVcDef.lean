/- Verification conditions for Go functions, by computation: the conditions (definitions alone). -/
import Derived.OrdersHeld
import Derived.Tactics
import Derived.Laws.World
import Derived.KernelRfl
namespace Go.Proofs.YtacjnpahlbibhaaDoor
open Go

/-! ### Values by kind -/
structure Sl where
  a : Option Addr
  len : Nat
  cap : Nat
@[reducible] def Sl.v (s : Sl) : Value := .slice s.a s.len s.cap

inductive Lf where
  | int (k : IntKind) | bool | str | ptr | adr | sl | map | any
@[reducible] def Lf.Ty : Lf → Type
  | .int _ => Int | .bool => Bool | .str => ByteArray | .ptr => Option Addr | .adr => Addr | .sl => Sl | .map => Option Nat | .any => Value
@[reducible] def Lf.val : (l : Lf) → l.Ty → Value
  | .int k, n => .int k n | .bool, b => .bool b | .str, s => .string s | .ptr, p => .pointer p | .adr, p => .pointer (some p) | .sl, s => s.v | .map, r => .map r | .any, v => v

def lfOf (P : Program) (t : TypeId) : Option Lf :=
  match P.underlying t with
  | some (.int k) => some (.int k)
  | some .bool => some .bool
  | some .string => some .str
  | some (.pointer _) => some .ptr
  | some (.slice _) => some .sl
  | some (.map _ _) => some .map
  | some (.func _ _ _) => some .any
  | some (.interface _) => some .any
  | _ => none
def lfs (P : Program) : Nat → TypeId → Option (List Lf)
  | 0, _ => none
  | n + 1, t =>
    match P.underlying t with
    | some (.struct fs) => fs.toList.foldr (fun f acc => match lfs P n f.type, acc with | some a, some b => some (a ++ b) | _, _ => none) (some [])
    | some (.array k e) => (lfs P n e).map fun l => (List.replicate k l).flatten
    | _ => (lfOf P t).map fun l => [l]
def aggB (P : Program) (t : TypeId) : Bool :=
  match P.underlying t with
  | some (.struct _) => true
  | some (.array _ _) => true
  | _ => false
def szOf (P : Program) (t : TypeId) : Nat := match P.info? t with | some i => i.size | none => 0
def zeroOf (P : Program) (t : TypeId) : Option Value := match P.info? t with | some i => i.zero | none => none

/-- The shape of a result. -/
inductive S1 where
  | lf (l : Lf) | agg (ls : List Lf)
inductive Sh where
  | one (s : S1) | tup (l : List S1)
def s1Of (P : Program) (t : TypeId) : Option S1 :=
  match aggB P t with
  | true => (lfs P 8 t).map .agg
  | false => (lfOf P t).map .lf
def shOf (P : Program) (t : TypeId) : Option Sh :=
  match P.underlying t with
  | some (.tuple ts) => (ts.toList.foldr (fun t acc => match s1Of P t, acc with | some a, some b => some (a :: b) | _, _ => none) (some [])).map .tup
  | _ => (s1Of P t).map .one
def exL : List Lf → (List Value → Prop) → Prop
  | [], K => K []
  | l :: ls, K => ∃ x : l.Ty, exL ls fun vs => K (l.val x :: vs)
def exS1 : S1 → (Value → Prop) → Prop
  | .lf l, K => ∃ x : l.Ty, K (l.val x)
  | .agg ls, K => exL ls fun vs => K (.agg vs.toArray)
def exSs : List S1 → (List Value → Prop) → Prop
  | [], K => K []
  | s :: ss, K => exS1 s fun v => exSs ss fun vs => K (v :: vs)
def exSh (sh : Sh) (K : Value → Prop) : Prop :=
  match sh with
  | .one s => exS1 s K
  | .tup l => exSs l fun vs => K (.tuple vs.toArray)
/-- A value known by its type alone. -/
def typed (P : Program) (t : TypeId) (K : Value → Prop) : Prop :=
  match shOf P t with
  | some sh => exSh sh K
  | none => False

/-! ### Asking a value -/
def asB (v : Value) (K : Bool → Prop) : Prop := match v with | .bool b => K b | _ => False
def asI (v : Value) (K : IntKind → Int → Prop) : Prop := match v with | .int k n => K k n | _ => False
def asP (v : Value) (K : Option Addr → Prop) : Prop := match v with | .pointer p => K p | _ => False
def asS (v : Value) (K : Option Addr → Nat → Nat → Prop) : Prop := match v with | .slice a l c => K a l c | _ => False
def asStr (v : Value) (K : ByteArray → Prop) : Prop := match v with | .string s => K s | _ => False
def asLf (l : Lf) (v : Value) (K : l.Ty → Prop) : Prop :=
  match l, v, K with
  | .int k, .int k' n, K => match decide (k = k') with | true => K n | false => False
  | .bool, .bool b, K => K b
  | .str, .string s, K => K s
  | .ptr, .pointer p, K => K p
  | .adr, .pointer (some p), K => K p
  | .sl, .slice a n c, K => K ⟨a, n, c⟩
  | .map, .map r, K => K r
  | .any, v, K => K v
  | _, _, _ => False

/-! ### The slots -/
abbrev Env := List (Nat × Value)
def Env.get : Env → Nat → Value
  | [], _ => undef
  | (k, v) :: r, t => match Nat.beq k t with | true => v | false => Env.get r t
abbrev Chain := List (Nat × Bool)
structure St where
  σ : Env
  jk : List Nat := []
  cs : List (Nat × Chain) := []
  kn : List (Nat × Bool) := []
def hasN : List Nat → Nat → Bool
  | [], _ => false
  | k :: r, t => match Nat.beq k t with | true => true | false => hasN r t
def delN : List Nat → Nat → List Nat
  | [], _ => []
  | k :: r, t => match Nat.beq k t with | true => delN r t | false => k :: delN r t
def chainOf : List (Nat × Chain) → Nat → Chain
  | [], _ => []
  | (k, c) :: r, t => match Nat.beq k t with | true => c | false => chainOf r t
def delC : List (Nat × Chain) → Nat → List (Nat × Chain)
  | [], _ => []
  | (k, c) :: r, t => match Nat.beq k t with | true => delC r t | false => (k, c) :: delC r t
def knOf : List (Nat × Bool) → Nat → Option Bool
  | [], _ => none
  | (k, b) :: r, t => match Nat.beq k t with | true => some b | false => knOf r t
def hasG : Chain → Nat → Bool
  | [], _ => false
  | (k, _) :: r, t => match Nat.beq k t with | true => true | false => hasG r t
def hasP : Chain → Nat × Bool → Bool
  | [], _ => false
  | (k, b) :: r, p => match Nat.beq k p.1, (b == p.2) with | true, true => true | _, _ => hasP r p
def subC (kn : List (Nat × Bool)) : Chain → Chain → Bool
  | [], _ => true
  | p :: r, c => match hasP c p || hasP kn p with | true => subC kn r c | false => false
def guards (cs : List (Nat × Chain)) (t : Nat) : Bool := cs.any fun p => hasG p.2 t
def ev (σ : Env) : Operand → Value
  | .tmp t => σ.get t
  | .const v => v
  | .global g => .pointer (some ⟨g, 0, none⟩)
  | .func f => .func (.func f) #[] #[]
/-- May this operand be looked at under the guards 'ch'? -/
def St.sees (s : St) (ch : Chain) : Operand → Bool
  | .tmp t => match hasN s.jk t with | true => false | false => subC s.kn (chainOf s.cs t) ch
  | _ => true
def St.put (n : Nat) (s : St) (dst : Option Tmp) (v : Value) (ch : Chain) (K : St → Prop) : Prop :=
  match dst with
  | none => K s
  | some d =>
    match Nat.blt d n, guards s.cs d || (knOf s.kn d).isSome || hasG ch d with
    | true, false =>
      match ch with
      | [] => K { s with σ := (d, v) :: s.σ, jk := delN s.jk d, cs := delC s.cs d }
      | _ => K { s with σ := (d, v) :: s.σ, jk := delN s.jk d, cs := (d, ch) :: delC s.cs d }
    | _, _ => False
/-- Behind a region what was guarded is forgotten. -/
def St.close (s : St) : St := { σ := s.σ, jk := s.cs.map (·.1) ++ s.jk }
def St.kill (s : St) (dead : List Nat) : St := { s with jk := dead ++ s.jk }

/-! ### One operation -/
/-- Under the guards. -/
def Rq : List (Bool × Bool) → Prop → Prop
  | [], φ => φ
  | (e, w) :: r, φ => e = w → Rq r φ
/-- What is known of a string's byte. -/
def bt (s : ByteArray) (i : Int) : Int := ((s.data.getD i.toNat 0).toNat : Int)
def cellsC (C : Addr → Value → Prop) : List Lf → Addr → Nat → (List Value → Prop) → Prop
  | [], _, _, K => K []
  | l :: ls, p, i, K => ∃ x : l.Ty, C (p.add i) (l.val x) ∧ cellsC C ls p (i + 1) fun vs => K (l.val x :: vs)
def loadC (P : Program) (C : Addr → Value → Prop) (t : TypeId) (p : Addr) (K : Value → Prop) : Prop :=
  match aggB P t with
  | true =>
    match lfs P 8 t with
    | some ls => match Nat.beq (szOf P t) ls.length with | true => cellsC C ls p 0 fun vs => K (.agg vs.toArray) | false => False
    | none => False
  | false =>
    match lfOf P t with
    | some l => ∃ x : l.Ty, C p (l.val x) ∧ K (l.val x)
    | none => False
def isPure : Op → Bool
  | .move _ | .assign _ | .pick .. | .load .. | .nilCheck _ | .fieldAddr .. | .field .. | .indexAddr .. | .extract .. | .build .. | .unOp .. | .makeFunc .. => true
  | .binOp .. => true
  | .slice .. => true
  | .call c => match c.callee with | .builtin .len => true | _ => false
  | _ => false
/-- Conversions between whole numbers are pure. -/
def intTo (P : Program) (t : TypeId) : Option IntKind := match P.underlying t with | some (.int k) => some k | _ => none
def plainB (P : Program) (t : TypeId) : Bool :=
  match P.underlying t with
  | some (.struct _) => false
  | some (.array _ _) => false
  | some (.interface _) => false
  | _ => true
def isPureP (P : Program) : Op → Bool
  | .convert src dst _ => match intTo P src, intTo P dst with | some _, some _ => true | _, _ => false
  | .binOp _ t _ _ _ => plainB P t
  | op => isPure op
def binC (R : Prop → Prop) (op : BinOp) (x y : Value) (K : Value → Prop) : Prop :=
  match x, y with
  | .int k a, .int k' b =>
    match op with
    | .shl => R (0 ≤ b) ∧ K (.int k (k.wrap (a * 2 ^ (min b.toNat k.bits))))
    | .shr => R (0 ≤ b) ∧ K (.int k (a.fdiv (2 ^ (min b.toNat k.bits))))
    | _ =>
      match decide (k = k') with
      | false => False
      | true =>
        match op with
        | .add => K (.int k (k.wrap (a + b)))
        | .sub => K (.int k (k.wrap (a - b)))
        | .mul => K (.int k (k.wrap (a * b)))
        | .quo => R (b ≠ 0) ∧ K (.int k (k.wrap (a.tdiv b)))
        | .rem => R (b ≠ 0) ∧ K (.int k (a.tmod b))
        | .and => K (.int k (k.wrap (BitVec.ofInt k.bits a &&& BitVec.ofInt k.bits b).toNat))
        | .or => K (.int k (k.wrap (BitVec.ofInt k.bits a ||| BitVec.ofInt k.bits b).toNat))
        | .xor => K (.int k (k.wrap (BitVec.ofInt k.bits a ^^^ BitVec.ofInt k.bits b).toNat))
        | .andNot => K (.int k (k.wrap (BitVec.ofInt k.bits a &&& ~~~ BitVec.ofInt k.bits b).toNat))
        | .eql => K (.bool (a == b))
        | .neq => K (.bool (a != b))
        | .lss => K (.bool (decide (a < b)))
        | .leq => K (.bool (decide (a ≤ b)))
        | .gtr => K (.bool (decide (a > b)))
        | .geq => K (.bool (decide (a ≥ b)))
        | _ => False
  | .string a, .string b =>
    match op with
    | .eql => K (.bool (a.toList == b.toList))
    | .neq => K (.bool (!(a.toList == b.toList)))
    | _ => False
  | .bool a, .bool b =>
    match op with
    | .eql => K (.bool (a == b))
    | .neq => K (.bool (!(a == b)))
    | _ => False
  | .slice a _ _, .slice none _ _ =>
    match op with
    | .eql => K (.bool a.isNone)
    | .neq => K (.bool (!a.isNone))
    | _ => False
  | .pointer a, .pointer none =>
    match op with
    | .eql => K (.bool a.isNone)
    | .neq => K (.bool (!a.isNone))
    | _ => False
  | _, _ => False
/-- Does the operation '==' on this type go by what 'binC' says? -/
def eqFits (P : Program) (t : TypeId) (x y : Value) : Bool :=
  match x, y with
  | .bool _, .bool _ => match P.underlying t with | some .bool => true | _ => false
  | .slice _ _ _, .slice _ _ _ => match P.underlying t with | some (.slice _) => true | _ => false
  | .pointer _, .pointer _ => match P.underlying t with | some (.pointer _) => true | _ => false
  | _, _ => true
def partC (P : Program) (t : TypeId) (cs : Array Value) (off : Nat) (K : Value → Prop) : Prop :=
  match P.underlying t with
  | none => False
  | some _ =>
    match aggB P t with
    | true => K (.agg (cs.extract off (off + szOf P t)))
    | false => match cs[off]? with | some v => K v | none => False
def withSz (P : Program) (t : TypeId) (K : Nat → Prop) : Prop := match P.info? t with | some i => K i.size | none => False
def boundC (R : Prop → Prop) (v : Option Value) (dflt top : Nat) (K : Nat → Prop) : Prop :=
  match v with
  | none => K dflt
  | some v => asI v fun _ i => R (0 ≤ i ∧ i ≤ (top : Int)) ∧ K i.toNat
def fieldOf (P : Program) (t : TypeId) (i : Nat) : Option Field :=
  match P.underlying t with
  | some (.struct fs) => fs[i]?
  | _ => none
def pureC (P : Program) (R : Prop → Prop) (C : Addr → Value → Prop) (ρ : Operand → Value) (op : Op) (K : Value → Prop) : Prop :=
  match op with
  | .move x => K (ρ x)
  | .assign x => K (ρ x)
  | .pick c a b =>
    asB (ρ c) fun t =>
      match a, b with
      | .const (.bool true), _ => asB (ρ b) fun y => K (.bool (t || y))
      | _, .const (.bool false) => asB (ρ a) fun x => K (.bool (t && x))
      | _, _ => False
  | .load t x => asP (ρ x) fun p => match p with | some p => loadC P C t p K | none => False
  | .nilCheck x => asP (ρ x) fun p => ∃ q, R (p = some q) ∧ K (.pointer (some q))
  | .fieldAddr t x i => asP (ρ x) fun p =>
      match p, fieldOf P t i with
      | some p, some f => match Nat.beq (szOf P f.type) 0 with | true => False | false => K (.pointer (some (p.add f.offset)))
      | _, _ => False
  | .field t x i =>
      match ρ x, fieldOf P t i with
      | .agg cs, some f => partC P f.type cs f.offset K
      | _, _ => False
  | .indexAddr t x i =>
      asI (ρ i) fun _ i =>
        match P.underlying t, ρ x with
        | some (.slice e), .slice a len _ => withSz P e fun sz => ∃ q, R (a = some q ∧ 0 ≤ i ∧ i < (len : Int)) ∧ K (.pointer (some (q.add (i.toNat * sz))))
        | some (.array len e), .pointer (some q) => withSz P e fun sz => R (0 ≤ i ∧ i < (len : Int)) ∧ K (.pointer (some (q.add (i.toNat * sz))))
        | _, _ => False
  | .extract x i => match ρ x with | .tuple vs => (match vs[i]? with | some v => K v | none => False) | _ => False
  | .unOp op _ x =>
      match op, ρ x with
      | .not, .bool b => K (.bool (!b))
      | .neg, .int k n => K (.int k (k.wrap (0 - n)))
      | .xor, .int k n => K (.int k (k.wrap (BitVec.ofInt k.bits (if k.signed then -1 else k.max) ^^^ BitVec.ofInt k.bits n).toNat))
      | _, _ => False
  | .makeFunc fn first captured => K (.func fn (first.map ρ) (captured.map ρ))
  | .binOp op t x y _ => match eqFits P t (ρ x) (ρ y) with | true => binC R op (ρ x) (ρ y) K | false => False
  | .convert _ dst x =>
      match intTo P dst, ρ x with
      | some k, .int _ n => K (.int k (k.wrap n))
      | _, _ => False
  | .slice t x low high max =>
      match max with
      | some _ => False
      | none =>
        match P.underlying t, ρ x with
        | some .string, .string s =>
          boundC R (high.map ρ) s.size s.size fun h => boundC R (low.map ρ) 0 h fun l => K (.string (s.extract l h))
        | some (.slice e), .slice a len cap =>
          withSz P e fun sz => boundC R (high.map ρ) len cap fun h => boundC R (low.map ρ) 0 h fun l =>
            K (.slice (if cap = l then a else a.map (·.add (l * sz))) (h - l) (cap - l))
        | some (.array n e), .pointer (some a) =>
          withSz P e fun sz => boundC R (high.map ρ) n n fun h => boundC R (low.map ρ) 0 h fun l =>
            K (.slice (some (if n = l then a else a.add (l * sz))) (h - l) (n - l))
        | _, _ => False
  | .build t parts =>
      match zeroOf P t, P.underlying t with
      | some z, some (.struct fs) =>
        match fs.toList.all fun f => (P.info? f.type).isSome with
        | false => False
        | true =>
        match Instr.fill (fun i => (fs[i]?).map fun f => (f.offset, szOf P f.type)) z.cells (parts.toList.map fun p => (p.1, ρ p.2)) with
        | some cells => K (.agg cells)
        | none => False
      | some z, some (.array _ e) =>
        match (P.info? e).isSome with
        | false => False
        | true =>
        match Instr.fill (fun i => some (i * szOf P e, szOf P e)) z.cells (parts.toList.map fun p => (p.1, ρ p.2)) with
        | some cells => K (.agg cells)
        | none => False
      | _, _ => False
  | .call c =>
      match c.callee, c.args.toList, c.argTypes.toList with
      | .builtin .len, [x], [t] =>
        match P.underlying t, ρ x with
        | some .string, .string s => K (.int .i64 s.size)
        | some (.array n _), _ => K (.int .i64 n)
        | some (.slice _), .slice _ n _ => K (.int .i64 n)
        | _, _ => False
      | _, _, _ => False
  | _ => False
/-- Which operands are looked at, and under which guards. -/
def seesAll (s : St) (ch : Chain) (op : Op) : Bool :=
  match op with
  | .pick (.tmp c) a b => s.sees ch (.tmp c) && s.sees ((c, true) :: ch) a && s.sees ((c, false) :: ch) b
  | op => op.operands.all (s.sees ch)

/-! ### Operations that turn the world, and calls -/
def RunV (P : Program) (m : Sem Value) (w : World) (K : Value → World → Prop) : Prop :=
  match m.run P w with
  | .ok v w' => K v w'
  | .halt _ _ => False
def RunU (P : Program) (m : Sem Unit) (w : World) (K : World → Prop) : Prop :=
  match m.run P w with
  | .ok _ w' => K w'
  | .halt _ _ => False
/-- A call of a Go function with a body: it returns. -/
def Ent (P : Program) (f : FuncId) : Prop := ∃ fn, P.funcs[f]? = some fn ∧ (fn.name == "runtime.NumGoroutine") = false ∧ fn.body.isNone = false
def CallV (P : Program) (f : FuncId) (args : Array Value) (w : World) (K : Value → World → Prop) : Prop :=
  Ent P f ∧ Calls P f args w fun e w' => ∃ v, e = .returned v ∧ K v w'
def stC (w : World) (p : Addr) : List Value → Nat → (World → Prop) → Prop
  | [], _, K => K w
  | v :: vs, i, K =>
    match v with
    | .agg _ => False
    | .tuple _ => False
    | v => (∃ u, w.cell? (p.add i) = some u) ∧ w.frozen? (p.add i) = false ∧ stC (w.setCell (p.add i) v) p vs (i + 1) K
def typedV (P : Program) (t : TypeId) (v : Value) (K : Value → Prop) : Prop := typed P t fun v' => v = v' ∧ K v'
def bsC (P : Program) (e : TypeId) (len : Nat) (parts : List (Nat × Value)) (K : Array Value → Prop) : Prop :=
  match (P.info? e).isSome with
  | false => False
  | true =>
  match Nat.ble (len * szOf P e) 4096 with
  | false => False
  | true =>
    match (match Nat.beq (len * szOf P e) 0 with | true => some #[] | false => (zeroOf P e).map Value.cells) with
    | none => False
    | some zero =>
      match Instr.fill (fun i => some (i * szOf P e, szOf P e)) ((Array.range (len * szOf P e)).map (zero[· % zero.size]!)) parts with
      | some cells => K cells
      | none => False
def actC (P : Program) (ρ : Operand → Value) (o : Oper) (w : World) (K : Value → World → Prop) : Prop :=
  match o.op with
  | .store t x y =>
      asP (ρ x) fun p => match p with
        | some p => withSz P t fun sz => match Nat.beq (ρ y).cells.size sz with | true => stC w p (ρ y).cells.toList 0 fun w' => K undef w' | false => False
        | none => False
  | .alloc t => match zeroOf P t with | some z => K (.pointer (some ⟨w.heap.size, 0, none⟩)) (w.alloc (.cells z.cells t)) | none => False
  | .box t x => K (.pointer (some ⟨w.heap.size, 0, none⟩)) (w.alloc (.cells (ρ x).cells t))
  | .buildSlice t len parts =>
      match P.underlying t with
      | some (.slice e) => bsC P e len (parts.toList.map fun p => (p.1, ρ p.2)) fun cells => K (.slice (some ⟨w.heap.size, 0, none⟩) len len) (w.alloc (.cells cells e))
      | _ => False
  | .call c =>
      match c.callee with
      | .value f =>
        match ρ f with
        | .func (.func g) first captured => CallV P g (first ++ c.args.map ρ ++ captured) w fun v w' => typedV P o.type v fun v' => K v' w'
        | _ => False
      | .builtin .append => RunV P (Builtin.append_ c.argTypes o.type (c.args.map ρ)) w fun v w' => typedV P o.type v fun v' => K v' w'
      | .builtin .copy => RunV P (Builtin.copy_ c.argTypes o.type (c.args.map ρ)) w fun v w' => typedV P o.type v fun v' => K v' w'
      | .builtin .min => RunV P (Builtin.min_ c.argTypes o.type (c.args.map ρ)) w fun v w' => typedV P o.type v fun v' => K v' w'
      | .builtin .max => RunV P (Builtin.max_ c.argTypes o.type (c.args.map ρ)) w fun v w' => typedV P o.type v fun v' => K v' w'
      | .builtin .cap => RunV P (Builtin.cap_ c.argTypes o.type (c.args.map ρ)) w fun v w' => typedV P o.type v fun v' => K v' w'
      | _ => False
  | .convert src dst x => RunV P (convert src dst (ρ x)) w fun v w' => typedV P dst v fun v' => K v' w'
  | .makeSlice t a b => RunV P (Instr.makeSlice t (ρ a) (ρ b)) w fun v w' => typedV P t v fun v' => K v' w'
  | .makeMap t r => RunV P (Instr.makeMap t (r.map ρ)) w fun v w' => typedV P t v fun v' => K v' w'
  | .lookup t x i ok => RunV P (Instr.lookup t (ρ x) (ρ i) ok) w fun v w' => typedV P o.type v fun v' => K v' w'
  | .mapUpdate t m k v => RunU P (Instr.mapUpdate t (ρ m) (ρ k) (ρ v)) w fun w' => K undef w'
  | .index t x i => RunV P (Instr.index t (ρ x) (ρ i)) w fun v w' => typedV P o.type v fun v' => K v' w'
  | .binOp op t x y _ => RunV P (do eqGuard op t x y (ρ x) (ρ y); binOp op t (ρ x) (ρ y)) w fun v w' => asB v fun b => K (.bool b) w'
  | .makeInterface t x => RunV P (Instr.makeInterface t (ρ x)) w fun v w' => typedV P o.type v fun v' => K v' w'
  | _ => False

/-- Names for worlds and new blocks in the printed conditions. -/
def Nw (w : World) (K : World → Prop) : Prop := K w
def Dw (w : World) (K : World → Prop) : Prop := K w.drew
def Na (w : World) (cs : Array Value) (e : TypeId) (K : Addr → World → Prop) : Prop := K ⟨w.heap.size, 0, none⟩ (w.alloc (.cells cs e))

/-! ### A region -/
/-- How an operation stands: passed over, or run under guards (those known left out). -/
inductive Run1 where
  | skip | run (ch : Chain)
def trim (kn : List (Nat × Bool)) : Chain → Run1
  | [] => .run []
  | (g, w) :: r =>
    match trim kn r with
    | .skip => .skip
    | .run ch =>
      match knOf kn g with
      | some b => match b == w with | true => .run ch | false => .skip
      | none => .run ((g, w) :: ch)
/-- The guards of an operation; none: its guard can't be looked at. -/
def chainAt (ops : Array Oper) (s : St) (o : Oper) : Option Chain :=
  match o.guard with
  | none => some []
  | some (j, want) =>
    match ops[j]? with
    | some oj => match oj.dst with
      | some g => match hasN s.jk g with | true => none | false => some ((g, want) :: chainOf s.cs g)
      | none => none
    | none => none
def valsC (σ : Env) : Chain → (List (Bool × Bool) → Prop) → Prop
  | [], K => K []
  | (g, w) :: r, K => asB (σ.get g) fun e => valsC σ r fun l => K ((e, w) :: l)
/-- A choice whose test is known. -/
def pickKn (s : St) (op : Op) : Option Operand :=
  match op with
  | .pick (.tmp c) a b => match hasN s.jk c, chainOf s.cs c, knOf s.kn c with | false, [], some true => some a | false, [], some false => some b | _, _, _ => none
  | _ => none
/-- One operation in its region. -/
def opC (P : Program) (n : Nat) (ops : Array Oper) (C : World → Addr → Value → Prop) (o : Oper) (s : St) (w : World) (K : St → World → Prop) : Prop :=
  match chainAt ops s o with
  | none => False
  | some ch0 =>
    match trim s.kn ch0 with
    | .skip => s.put n o.dst undef [] fun s' => K s' w
    | .run ch =>
      match pickKn s o.op with
      | some x =>
        match s.sees ch x with
        | true => s.put n o.dst (ev s.σ x) ch fun s' => K s' w
        | false => False
      | none =>
      match isPureP P o.op with
      | true =>
        match seesAll s ch o.op with
        | true => valsC s.σ ch fun gs => pureC P (Rq gs) (fun p v => Rq gs (C w p v)) (ev s.σ) o.op fun v => s.put n o.dst v ch fun s' => K s' w
        | false => False
      | false =>
        match ch with
        | [] =>
          match seesAll s [] o.op with
          | true => actC P (ev s.σ) o w fun v w' => s.put n o.dst v [] fun s' => K s' w'
          | false => False
        | [(g, want)] =>
          match seesAll s [(g, want)] o.op with
          | true =>
            asB (s.σ.get g) fun e =>
              (e = want → actC P (ev s.σ) o w fun v w' => { s with kn := (g, want) :: s.kn }.put n o.dst v [] fun s' => K s' w') ∧
              (e = !want → { s with kn := (g, !want) :: s.kn }.put n o.dst undef [] fun s' => K s' w)
          | false => False
        | _ => False
def regC (P : Program) (n : Nat) (ops : Array Oper) : List Oper → St → World → (St → World → Prop) → Prop
  | [], s, w, K => K s.close w
  | o :: r, s, w, K => opC P n ops (fun w p v => w.cell? p = some v) o s w fun s' w' => regC P n ops r s' w' K
def allL {α : Type} : List α → (α → Prop) → Prop
  | [], _ => True
  | [i], f => f i
  | i :: r, f => f i ∧ allL r f
/-- May it be taken first? -/
def takes (P : Program) (s : St) (ops : Array Oper) (i : Nat) : Bool :=
  match ops[i]? with
  | none => false
  | some o =>
    match chainAt ops s o with
    | none => false
    | some ch0 => match trim s.kn ch0 with | .skip => true | .run _ => isPureP P o.op
def isLoad : Op → Bool
  | .load .. => true
  | _ => false
def waitsOn (o : Oper) (k : Nat) : Bool := o.after.toList.any fun e => Region.binds .any e && Nat.beq e.on k
/-- Is there a load that this operation doesn't wait for? -/
def needS (ops : Array Oper) (j : Nat) : Bool :=
  match ops[j]? with
  | none => false
  | some oj => (List.range ops.size).any fun k => match ops[k]? with | some ok => isLoad ok.op && !(Nat.beq k j) && !(waitsOn oj k) | none => false
def needsS (P : Program) (ops : Array Oper) : Bool :=
  (List.range ops.size).any fun j => match ops[j]? with | some oj => !(isPureP P oj.op) && needS ops j | none => false
def keepS (ops : Array Oper) (S : World → Prop) (j : Nat) (w : World) (φ : Prop) : Prop := match needS ops j with | true => S w ∧ φ | false => φ
/-- 'sv': is it known that the world at hand meets 'S'? -/
def drawC (P : Program) (n : Nat) (ops : Array Oper) (S : World → Prop) (Cd : Addr → Value → Prop) : Nat → Bool → Array Bool → St → World → (St → World → Prop) → Prop
  | 0, _, listed, s, w, K => match Region.ready .any ops listed with | [] => K s.close w | _ => False
  | fuel + 1, sv, listed, s, w, K =>
    match Region.ready .any ops listed with
    | [] => K s.close w
    | rs =>
      match rs.find? (fun i => takes P s ops i && Region.free .any ops listed i) with
      | some i =>
        match ops[i]? with
        | none => False
        | some o =>
          match isLoad o.op && !sv with
          | true => False
          | false => opC P n ops (fun _ => Cd) o s w fun s' w' => drawC P n ops S Cd fuel sv (listed.setIfInBounds i true) s' w' K
      | none =>
        allL rs fun i =>
          match ops[i]? with
          | none => False
          | some o => opC P n ops (fun w p v => w.cell? p = some v) o s w fun s' w' => keepS ops S i w' (drawC P n ops S Cd fuel (needS ops i) (listed.setIfInBounds i true) s' w' K)

/-! ### Code -/
def Br (b : Bool) (A B : Prop) : Prop := (b = true → A) ∧ (b = false → B)
inductive An where
  | nil
  | seq (a b : An)
  | jn (live : List (Nat × Lf)) (dead : List Nat) (a b : An)
  | cond (a b : An)
  | blk (a : An)
  | lp (live : List (Nat × Lf)) (dead : List Nat) (a : An)
@[reducible] def LP : List (Nat × Lf) → Type
  | [] => World → Prop
  | (_, l) :: r => l.Ty → LP r
def St.set (s : St) (t : Nat) (v : Value) : St := { s with σ := (t, v) :: s.σ, jk := delN s.jk t }
def apL : (ls : List (Nat × Lf)) → LP ls → St → World → Prop
  | [], L, _, w => L w
  | (t, l) :: r, L, s, w => match hasN s.jk t with | true => False | false => asLf l (s.σ.get t) fun x => apL r (L x) s w
def faL : (ls : List (Nat × Lf)) → LP ls → St → (St → (World → Prop) → Prop) → Prop
  | [], L, s, F => F s L
  | (t, l) :: r, L, s, F => ∀ x : l.Ty, faL r (L x) (s.set t (l.val x)) F
def dstsOf : List Oper → List Nat
  | [] => []
  | o :: r => match o.dst with | some d => d :: dstsOf r | none => dstsOf r
def writes : Code → List Nat
  | .region _ ops _ => dstsOf ops.toList
  | .seq a b => writes a ++ writes b
  | .cond _ a b => writes a ++ writes b
  | .block _ a => writes a
  | .loop a => writes a
  | _ => []
def covers (ws : List Nat) (live : List (Nat × Lf)) (dead : List Nat) : Bool :=
  (ws.all fun t => hasN dead t || live.any fun p => Nat.beq p.1 t) && (dead.all fun t => hasN ws t) && (live.all fun p => hasN ws p.1)
def slotsOk (n : Nat) (live : List (Nat × Lf)) : Bool := live.all fun p => Nat.blt p.1 n
def vc (P : Program) (n : Nat) : Code → An → St → World → (St → World → Prop) → (Nat → St → World → Prop) → (St → World → Prop) → Prop
  | .skip, _, s, w, N, _, _ => N s w
  | .region _ ops false, _, s, w, N, _, _ => match Region.noSelect ops with | true => regC P n ops ops.toList s w N | false => False
  | .region _ ops true, _, s, w, N, _, _ =>
    match Region.noSelect ops with
    | false => False
    | true =>
    match needsS P ops with
    | true => ∃ S : World → Prop, S w.drew ∧ drawC P n ops S (fun p v => ∀ w, S w → w.cell? p = some v) ops.size true (Array.replicate ops.size false) s w.drew N
    | false => drawC P n ops (fun w' => w' = w.drew) (fun p v => w.drew.cell? p = some v) ops.size true (Array.replicate ops.size false) s w.drew N
  | .seq x y, .seq a b, s, w, N, X, Rt => vc P n x a s w (fun s' w' => vc P n y b s' w' N X Rt) X Rt
  | .seq x y, .jn live dead a b, s, w, N, X, Rt =>
    match covers (writes x) live dead, slotsOk n live with
    | true, true => ∀ J : LP live, faL live J (s.kill dead) (fun s' Jw => ∀ w', vc P n y b s' w' N X Rt → Jw w') → vc P n x a s w (apL live J) X Rt
    | _, _ => False
  | .cond c x y, .cond a b, s, w, N, X, Rt =>
    match s.sees [] c with
    | true => asB (ev s.σ c) fun t => Br t (vc P n x a s w N X Rt) (vc P n y b s w N X Rt)
    | false => False
  | .block id c, .blk a, s, w, N, X, Rt => vc P n c a s w N (fun i s' w' => match Nat.beq i id with | true => N s' w' | false => X i s' w') Rt
  | .loop c, .lp live dead a, s, w, _, X, Rt =>
    match covers (writes c) live dead, slotsOk n live with
    | true, true => ∀ L : LP live, faL live L (s.kill dead) (fun s' Lw => ∀ w', vc P n c a s' w' (apL live L) X Rt → Lw w') → apL live L s w
    | _, _ => False
  | .exit id, _, s, w, _, X, _ => X id s w
  | .ret, _, s, w, _, _, Rt => Rt s w
  | _, _, _, _, _, _, _ => False
/-- What a function hands back. -/
def resC (P : Program) (s : St) (w : World) : List ResultVar → (List Value → Prop) → Prop
  | [], K => K []
  | .tmp t :: r, K => match hasN s.jk t with | true => False | false => resC P s w r fun vs => K (s.σ.get t :: vs)
  | .cell a t :: r, K =>
    match hasN s.jk a with
    | true => False
    | false => asP (s.σ.get a) fun p => match p with
      | some p => loadC P (fun p v => w.cell? p = some v) t p fun v => resC P s w r fun vs => K (v :: vs)
      | none => False
def retC (P : Program) (fn : Func) (R : Ending → World → Prop) (s : St) (w : World) : Prop :=
  resC P s w fn.results.toList fun vs => match vs with | [v] => R (.returned v) w | vs => R (.returned (.tuple vs.toArray)) w
def argEnv : Nat → List Value → Env
  | _, [] => []
  | i, v :: vs => (i, v) :: argEnv (i + 1) vs
def vcF (P : Program) (fn : Func) (an : An) (args : List Value) (w : World) (R : Ending → World → Prop) : Prop :=
  match fn.body with
  | some c => match Nat.ble args.length fn.ntmps with
    | true => vc P fn.ntmps c an { σ := argEnv 0 args } w (retC P fn R) (fun _ _ _ => False) (retC P fn R)
    | false => False
  | none => False
end Go.Proofs.YtacjnpahlbibhaaDoor

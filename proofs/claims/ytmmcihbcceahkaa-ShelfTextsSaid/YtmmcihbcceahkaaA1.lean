/- The layer SR, first part: states, the residual's words, what an operation comes to; no program in sight. -/
import Derived.WalkKit
import Derived.OrdersHeld
import Derived.Deep.RegionHeld3
import Derived.Defers
import Derived.KernelRfl
import Derived.Laws.StructEq
namespace Go.SR
open Go

abbrev Env := Nat → Value

/-- What the temporaries hold, and what is deferred. -/
structure St where
  e : Env
  d : List Deferred

def St.upd (s : St) (dst : Option Nat) (v : Value) : St :=
  match dst with
  | none => s
  | some d => ⟨fun t => bif Nat.beq t d then v else s.e t, s.d⟩

def St.ev (s : St) : Operand → Value
  | .tmp t => s.e t
  | .const v => v
  | .global g => .pointer (some ⟨g, 0, none⟩)
  | .func f => .func (.func f) #[] #[]

/-! ### kinds of cells and of values -/

inductive Knd where
  | int (k : IntKind)
  | bool | ptr | slice | map | str | val

inductive Shp where
  | cell (k : Knd)
  | agg (ks : List Knd)

def kndOf : TypeDesc → Knd
  | .int k => .int k
  | .bool => .bool
  | .pointer _ => .ptr
  | .slice _ => .slice
  | .map _ _ => .map
  | .string => .str
  | _ => .val

def flat (P : Program) : Nat → TypeId → List Knd
  | 0, _ => []
  | n + 1, t =>
    match P.underlying t with
    | some (.struct fs) => fs.toList.flatMap fun f => flat P n f.type
    | some (.array len e) => (List.replicate len (flat P n e)).flatten
    | some d => [kndOf d]
    | none => []

def shp (P : Program) (t : TypeId) : Shp :=
  match P.underlying t with
  | some (.struct _) | some (.array _ _) => .agg (flat P 6 t)
  | some d => .cell (kndOf d)
  | none => .cell .val

def shps (P : Program) (t : TypeId) : List Shp :=
  match P.underlying t with
  | some (.tuple ts) => ts.toList.map (shp P)
  | _ => [shp P t]

/-- Some value of a kind. -/
def exOne : Knd → (Value → Prop) → Prop
  | .int k, F => ∃ n : Int, F (.int k n)
  | .bool, F => ∃ b : Bool, F (.bool b)
  | .ptr, F => ∃ p : Option Addr, F (.pointer p)
  | .slice, F => ∃ (p : Option Addr) (l c : Nat), F (.slice p l c)
  | .map, F => ∃ r : Option Nat, F (.map r)
  | .str, F => ∃ s : ByteArray, F (.string s)
  | .val, F => ∃ v : Value, F v

def exK : List Knd → (List Value → Prop) → Prop
  | [], F => F []
  | k :: ks, F => exOne k fun v => exK ks fun vs => F (v :: vs)

def exSh : Shp → (Value → Prop) → Prop
  | .cell k, F => exOne k F
  | .agg ks, F => exK ks fun vs => F (.agg vs.toArray)

def exS : List Shp → (List Value → Prop) → Prop
  | [], F => F []
  | s :: ss, F => exSh s fun v => exS ss fun vs => F (v :: vs)

/-- v is of a shape. -/
def tyS (s : Shp) (v : Value) (F : Value → Prop) : Prop := exSh s fun u => v = u ∧ F u

def tyR (ss : List Shp) (v : Value) (F : Value → Prop) : Prop :=
  match ss with
  | [] => F v
  | [s] => tyS s v F
  | ss => exS ss fun vs => v = .tuple vs.toArray ∧ F (.tuple vs.toArray)

theorem exOne_elim {k : Knd} {F : Value → Prop} (h : exOne k F) : ∃ v, F v := by
  cases k <;> simp only [exOne] at h
  case slice => obtain ⟨p, l, c, h⟩ := h; exact ⟨_, h⟩
  all_goals (obtain ⟨x, h⟩ := h; exact ⟨_, h⟩)

theorem exK_elim : ∀ (ks : List Knd) {F : List Value → Prop}, exK ks F → ∃ vs, vs.length = ks.length ∧ F vs
  | [], F, h => ⟨[], rfl, h⟩
  | k :: ks, F, h => by
    obtain ⟨v, h⟩ := exOne_elim h
    obtain ⟨vs, hl, h⟩ := exK_elim ks h
    exact ⟨v :: vs, by simp [hl], h⟩

theorem exSh_elim {s : Shp} {F : Value → Prop} (h : exSh s F) : ∃ v, F v := by
  cases s with
  | cell k => exact exOne_elim h
  | agg ks => obtain ⟨vs, _, h⟩ := exK_elim ks h; exact ⟨_, h⟩

theorem exS_elim : ∀ (ss : List Shp) {F : List Value → Prop}, exS ss F → ∃ vs, F vs
  | [], F, h => ⟨[], h⟩
  | s :: ss, F, h => by
    obtain ⟨v, h⟩ := exSh_elim h
    obtain ⟨vs, h⟩ := exS_elim ss h
    exact ⟨v :: vs, h⟩

theorem tyS_elim {s : Shp} {v : Value} {F : Value → Prop} (h : tyS s v F) : F v := by
  obtain ⟨u, rfl, h⟩ := exSh_elim h
  exact h

theorem tyR_elim {ss : List Shp} {v : Value} {F : Value → Prop} (h : tyR ss v F) : F v := by
  unfold tyR at h
  split at h
  · exact h
  · exact tyS_elim h
  · obtain ⟨vs, rfl, h'⟩ := exS_elim _ h
    exact h'

/-! ### the words of a residual -/

/-- A branch. -/
def br (b : Bool) (x y : Prop) : Prop :=
  match b with
  | true => x
  | false => y

/-- A pointer that is followed. -/
def nc (p : Option Addr) (F : Addr → Prop) : Prop :=
  match p with
  | some a => F a
  | none => False

/-- The cells from an address on. -/
def cellsAt (w : World) (a : Addr) (vs : List Value) : Prop := ∀ (i : Nat) (h : i < vs.length), w.cell? (a.add i) = some vs[i]

/-- An element's address. -/
def ixa (p : Option Addr) (len : Nat) (i : Int) (size : Nat) (F : Addr → Prop) : Prop :=
  ∃ a, p = some a ∧ 0 ≤ i ∧ i < (len : Int) ∧ F (a.add (i.toNat * size))

/-- The same in an array. -/
def ixr (a : Addr) (len : Nat) (i : Int) (size : Nat) (F : Addr → Prop) : Prop :=
  0 ≤ i ∧ i < (len : Int) ∧ F (a.add (i.toNat * size))

/-- The address of a part of a slice. -/
def sla (p : Option Addr) (cap l size : Nat) : Option Addr := if cap = l then p else p.map (·.add (l * size))

/-- A store of one cell. -/
def st1 (a : Addr) (v : Value) (w : World) (F : World → Prop) : Prop :=
  (∃ u, w.cell? a = some u) ∧ w.frozen? a = false ∧ v.oneCell' = true ∧ F (w.setCell a v)

def stN' (a : Addr) : List Value → Nat → World → (World → Prop) → Prop
  | [], _, w, F => F w
  | v :: vs, i, w, F => st1 (a.add i) v w fun w => stN' a vs (i + 1) w F

/-- A store of some cells. -/
def stN (a : Addr) (vs : List Value) (w : World) (F : World → Prop) : Prop := stN' a vs 0 w F

/-- A new row of cells. -/
def al (cs : Array Value) (t : TypeId) (w : World) (F : Nat → World → Prop) : Prop := F w.heap.size (w.alloc (.cells cs t))

/-- A new object. -/
def nwo (o : Obj) (w : World) (F : Nat → World → Prop) : Prop := F w.heap.size (w.alloc o)

/-- What a run of the model's comes to. -/
def rnV (P : Program) (s : Sem Value) (w : World) (F : Value → World → Prop) : Prop := ∃ v w', s.run P w = .ok v w' ∧ F v w'

def rnU (P : Program) (s : Sem Unit) (w : World) (F : World → Prop) : Prop := ∃ w', s.run P w = .ok () w' ∧ F w'

/-- Can a function be entered? -/
def callable (P : Program) (f : FuncId) : Bool :=
  match P.funcs[f]? with
  | some fn => fn.body.isSome && !(fn.name == "runtime.NumGoroutine")
  | none => false

/-- A call, with the fact that it enters a body. -/
def Cs (P : Program) (f : FuncId) (args : Array Value) (w : World) (R : Ending → World → Prop) : Prop := callable P f = true ∧ Calls P f args w R

/-- A call. -/
def cl (P : Program) (f : FuncId) (args : Array Value) (w : World) (K : Value → World → Prop) (Kp : List PanicEntry → World → Prop) : Prop :=
  Cs P f args w fun e w' =>
    match e with
    | .returned v => K v w'
    | .panicked ch => Kp ch w'
    | .outgrown => False

/-- A call of a function value. -/
def clv (P : Program) (f : Value) (args : List Value) (w : World) (K : Value → World → Prop) (Kp : List PanicEntry → World → Prop) : Prop :=
  ∃ g first cap, f = .func (.func g) first cap ∧ cl P g (first.toList ++ args ++ cap.toList).toArray w K Kp

/-- A draw. -/
def dr (w : World) (F : World → Prop) : Prop := F { w with drawn := w.drawn + 1 }

/-- What was read. -/
inductive Fact where
  | cell (a : Addr) (v : Value)
  | cells (a : Addr) (vs : List Value)
  | mapo (r : Option Nat) (es : Array MapEntry) (c : Nat)

def Fact.holds (w : World) : Fact → Prop
  | .cell a v => w.cell? a = some v
  | .cells a vs => cellsAt w a vs
  | .mapo r es c => ∀ b, r = some b → w.heap[b]? = some (.map es c)

/-- What was read stays. -/
def hold (l : List Fact) (w : World) : Prop := ∀ p ∈ l, p.holds w

/-- A value that hangs on no memory. -/
def pv (P : Program) (s : Sem Value) (F : Value → Prop) : Prop := ∃ v, (∀ w, s.run P w = .ok v w) ∧ F v

/-- A value that hangs on one map. -/
def mrd (P : Program) (s : Sem Value) (r : Option Nat) (w : World) (F : Value → Fact → Prop) : Prop :=
  ∃ es c v, (Fact.mapo r es c).holds w ∧ (∀ w', (Fact.mapo r es c).holds w' → s.run P w' = .ok v w') ∧ F v (.mapo r es c)

/-- A step of an iteration over a map. -/
def nxt (P : Program) (s : Sem Value) (w : World) (K0 : World → Prop) (K1 : Value → Value → World → Prop) : Prop :=
  ∃ v w', s.run P w = .ok v w' ∧ ((v = .tuple #[.bool false] ∧ K0 w') ∨ ∃ k x, v = .tuple #[.bool true, k, x] ∧ K1 k x w')

/-- The entry at which an iteration stands. -/
def ent (P : Program) (s : Sem Value) (w : World) (F : Value → Value → World → Prop) : Prop := ∃ k x w', s.run P w = .ok (.tuple #[k, x]) w' ∧ F k x w'

/-- A loop. -/
def lp {σ : Type} (body : Env → (σ → World → Prop) → σ → World → Prop) (s : σ) (w : World) : Prop :=
  ∃ I : Nat → σ → World → Prop, (∃ n, I n s w) ∧ ∀ n j s w, I n s w → body j (fun s' w' => ∃ m, m < n ∧ I m s' w') s w

/-- Where ways meet. -/
def jn {σ : Type} (K : Env → σ → World → Prop) (body : (σ → World → Prop) → Prop) : Prop :=
  ∃ J : σ → World → Prop, (∀ j s w, J s w → K j s w) ∧ body J

def zc (P : Program) (t : TypeId) : Array Value :=
  match (P.info? t).bind (·.zero) with
  | some v => v.cells
  | none => #[]

/-! ### operations -/

def szOf (P : Program) (t : TypeId) : Nat := ((P.info? t).map (·.size)).getD 0

def ldT (P : Program) (t : TypeId) (a : Addr) (w : World) (F : Value → List Fact → Prop) : Prop :=
  match P.underlying t with
  | some (.struct _) | some (.array _ _) =>
    bif Nat.beq (szOf P t) (flat P 6 t).length then exK (flat P 6 t) fun vs => cellsAt w a vs ∧ F (.agg vs.toArray) [.cells a vs] else False
  | some d => exOne (kndOf d) fun v => w.cell? a = some v ∧ F v [.cell a v]
  | none => False

def stT (P : Program) (t : TypeId) (a : Addr) (v : Value) (w : World) (F : World → Prop) : Prop :=
  match v with
  | .agg cs => bif (P.info? t).isSome && Nat.beq cs.toList.length (szOf P t) then stN a cs.toList w F else False
  | v => bif Nat.beq (szOf P t) 1 then st1 a v w F else False

def intT (op : BinOp) (k : IntKind) (a : Int) (k' : IntKind) (b : Int) (F : Value → Prop) : Prop :=
  match op with
  | .shl => 0 ≤ b ∧ F (.int k (k.wrap (a * 2 ^ (min b.toNat k.bits))))
  | .shr => 0 ≤ b ∧ F (.int k (a.fdiv (2 ^ (min b.toNat k.bits))))
  | op =>
    if k = k' then
      match op with
      | .add => F (.int k (k.wrap (a + b)))
      | .sub => F (.int k (k.wrap (a - b)))
      | .mul => F (.int k (k.wrap (a * b)))
      | .quo => b ≠ 0 ∧ F (.int k (k.wrap (a.tdiv b)))
      | .rem => b ≠ 0 ∧ F (.int k (a.tmod b))
      | .and => F (.int k (k.wrap (BitVec.ofInt k.bits a &&& BitVec.ofInt k.bits b).toNat))
      | .or => F (.int k (k.wrap (BitVec.ofInt k.bits a ||| BitVec.ofInt k.bits b).toNat))
      | .xor => F (.int k (k.wrap (BitVec.ofInt k.bits a ^^^ BitVec.ofInt k.bits b).toNat))
      | .andNot => F (.int k (k.wrap (BitVec.ofInt k.bits a &&& ~~~(BitVec.ofInt k.bits b)).toNat))
      | .eql => F (.bool (a == b))
      | .neq => F (.bool (a != b))
      | .lss => F (.bool (decide (a < b)))
      | .leq => F (.bool (decide (a ≤ b)))
      | .gtr => F (.bool (decide (a > b)))
      | .geq => F (.bool (decide (a ≥ b)))
      | _ => False
    else False

def nilV : Value → Option Bool
  | .nilIface | .nilFunc => some true
  | .iface _ _ | .func _ _ _ => some false
  | _ => none

/-- Two values held against each other. -/
def eqT (P : Program) (t : TypeId) (x y : Value) (F : Bool → Prop) : Prop :=
  match P.underlying t with
  | some .bool => (match x, y with | .bool a, .bool b => F (a == b) | _, _ => False)
  | some (.pointer _) => (match x, y with
    | .pointer p, .pointer none => F p.isNone
    | .pointer none, .pointer q => F q.isNone
    | _, _ => False)
  | some (.slice _) => (match y with
    | .slice none _ _ => (match x with | .slice p _ _ => F p.isNone | _ => False)
    | _ => False)
  | some (.map _ _) => (match y with
    | .map none => (match x with | .map p => F p.isNone | _ => False)
    | _ => False)
  | _ => False

def okF (f : Field) (i : Nat) : Bool := !(f.name == "_") && Nat.beq f.offset i

/-- Parts held against each other: whole numbers and truths. -/
def eqL (P : Program) : List Field → Nat → List Value → List Value → (Bool → Prop) → Prop
  | [], _, [], [], F => F true
  | f :: fs, i, x :: xs, y :: ys, F =>
    bif okF f i then
      match P.underlying f.type with
      | some (.int _) => (match x with
        | .int k a => (match y with
          | .int k' b => if k = k' then eqL P fs (i + 1) xs ys fun r => F ((a == b) && r) else False
          | _ => False)
        | _ => False)
      | some .bool => (match x with
        | .bool a => (match y with
          | .bool b => eqL P fs (i + 1) xs ys fun r => F ((a == b) && r)
          | _ => False)
        | _ => False)
      | _ => False
    else False
  | _, _, _, _, _ => False

def aggT (P : Program) (t : TypeId) (xs ys : List Value) (F : Bool → Prop) : Prop :=
  match P.underlying t with
  | some (.struct fs) => bif !(P.stoodInHeld t) && !(P.eqGuardType P.depth t) then eqL P fs.toList 0 xs ys F else False
  | _ => False

def binT (P : Program) (op : BinOp) (t : TypeId) (x y : Value) (F : Value → Prop) : Prop :=
  match x with
  | .int k a => (match y with | .int k' b => intT op k a k' b F | _ => False)
  | .string a => (match y with
    | .string b => (match op with
      | .eql => F (.bool (a.toList == b.toList))
      | .neq => F (.bool !(a.toList == b.toList))
      | _ => False)
    | _ => False)
  | .agg xs => (match y with
    | .agg ys => (match op with
      | .eql => aggT P t xs.toList ys.toList fun b => F (.bool b)
      | .neq => aggT P t xs.toList ys.toList fun b => F (.bool !b)
      | _ => False)
    | _ => False)
  | x => (match op with
    | .eql => eqT P t x y fun b => F (.bool b)
    | .neq => eqT P t x y fun b => F (.bool !b)
    | _ => False)

def unT (op : UnOp) (x : Value) (F : Value → Prop) : Prop :=
  match op, x with
  | .not, .bool b => F (.bool !b)
  | .neg, .int k n => F (.int k (k.wrap (0 - n)))
  | .xor, .int k n => F (.int k (k.wrap (BitVec.ofInt k.bits (if k.signed then -1 else k.max) ^^^ BitVec.ofInt k.bits n).toNat))
  | _, _ => False

def cnvT (P : Program) (src dst : TypeId) (x : Value) (F : Value → Prop) : Prop :=
  match P.underlying src, P.underlying dst with
  | some _, some (.int k) => (match x with | .int _ n => F (.int k (k.wrap n)) | _ => False)
  | _, _ => False

/-- Parts laid into cells. -/
def layAt (cells : List Value) (off : Nat) (vs : List Value) : List Value := cells.take off ++ vs ++ cells.drop (off + vs.length)

def fieldOf (P : Program) (t : TypeId) (i : Nat) : Option Field :=
  match P.underlying t with
  | some (.struct fs) => fs.toList[i]?
  | _ => none

def isAggT (P : Program) (t : TypeId) : Bool :=
  match P.underlying t with
  | some (.struct _) | some (.array _ _) => true
  | _ => false

def memN (t : Nat) : List Nat → Bool
  | [] => false
  | x :: l => Nat.beq t x || memN t l

def isIn (x : Operand) (ty : List Nat) : Bool :=
  match x with
  | .tmp t => memN t ty
  | _ => false

/-- An operation that neither looks at memory nor turns it. -/
def pureT (P : Program) (ty : List Nat) (o : Oper) (s : St) (F : Value → Prop) : Prop :=
  match o.op with
  | .move x | .assign x => F (s.ev x)
  | .pick c a b => (match s.ev c with | .bool t => F (bif t then s.ev a else s.ev b) | _ => False)
  | .nilCheck x => (match s.ev x with
    | .pointer p => nc p fun a => F (.pointer (some a))
    | .func (.func g) fi ca => F (.func (.func g) fi ca)
    | _ => False)
  | .binOp op t x y _ => binT P op t (s.ev x) (s.ev y) F
  | .unOp op _ x => unT op (s.ev x) F
  | .convert src dst x => cnvT P src dst (s.ev x) F
  | .makeInterface t x => (match P.underlying t with
    | some (.interface _) => False
    | some _ => F (.iface t (s.ev x))
    | none => False)
  | .makeFunc fn first captured => F (.func fn (first.toList.map s.ev).toArray (captured.toList.map s.ev).toArray)
  | .fieldAddr t x i => (match s.ev x with
    | .pointer p => (match fieldOf P t i with
      | some f => bif Nat.beq (szOf P f.type) 0 then False else nc p fun a => F (.pointer (some (bif Nat.beq f.offset 0 then a else a.add f.offset)))
      | none => False)
    | _ => False)
  | .indexAddr t x i => (match s.ev i with
    | .int _ n => (match P.underlying t with
      | some (.slice e) => bif Nat.beq (szOf P e) 0 then False else (match s.ev x with | .slice p l _ => ixa p l n (szOf P e) fun a => F (.pointer (some a)) | _ => False)
      | some (.array len e) => bif Nat.beq (szOf P e) 0 then False else (match s.ev x with | .pointer p => nc p fun a => ixr a len n (szOf P e) fun a => F (.pointer (some a)) | _ => False)
      | _ => False)
    | _ => False)
  | .extract x i => (match s.ev x with
    | .tuple vs => (match vs.toList[i]? with | some v => (match isIn x ty with | true => tyS (shp P o.type) v F | false => F v) | none => False)
    | _ => False)
  | .call { callee := .builtin .len, args, argTypes } => (match args.toList with
    | [x] => (match (argTypes[0]?).bind P.underlying with
      | some (.slice _) => (match s.ev x with | .slice _ n _ => F (.int .i64 n) | _ => False)
      | some .string => (match s.ev x with | .string b => F (.int .i64 b.size) | _ => False)
      | some (.array n _) => F (.int .i64 n)
      | _ => False)
    | _ => False)
  | .call { callee := .builtin .cap, args, argTypes } => (match args.toList with
    | [x] => (match (argTypes[0]?).bind P.underlying with
      | some (.slice _) => (match s.ev x with | .slice _ _ c => F (.int .i64 c) | _ => False)
      | _ => False)
    | _ => False)
  | .call { callee := .builtin .min, args, .. } => (match args.toList with
    | [x, y] => (match s.ev x with
      | .int k a => (match s.ev y with | .int _ b => F (.int k (if b < a then b else a)) | _ => False)
      | _ => False)
    | _ => False)
  | .call { callee := .builtin .max, args, .. } => (match args.toList with
    | [x, y] => (match s.ev x with
      | .int k a => (match s.ev y with | .int _ b => F (.int k (if a < b then b else a)) | _ => False)
      | _ => False)
    | _ => False)
  | _ => False
end Go.SR

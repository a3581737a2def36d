/- SymA, SymAF -/
import Derived.RangeFuncLeaves
import Derived.RangeFuncCalls
import Derived.OrdersIn
import Derived.KernelRfl
namespace Go.Sy
open Go
/-! ### Finite maps -/
inductive T (α : Type) | e | n (v : Option α) (l r : T α)
noncomputable def T.get {α : Type} (t : T α) : Nat → Option α :=
  T.rec (motive := fun _ => Nat → Option α) (fun _ => none)
    (fun v _ _ gl gr i => Bool.rec (Bool.rec (gr (Nat.sub (Nat.div i 2) 1)) (gl (Nat.div i 2)) (Nat.beq (Nat.mod i 2) 1)) v (Nat.beq i 0)) t
noncomputable def T.setE {α β : Type} (x : Option α) (f : Nat) : Nat → (T α → β) → β :=
  Nat.rec (motive := fun _ => Nat → (T α → β) → β) (fun _ c => c .e)
    (fun _ ih i c => Bool.rec (Bool.rec (ih (Nat.sub (Nat.div i 2) 1) fun l => c (.n none .e l)) (ih (Nat.div i 2) fun l => c (.n none l .e)) (Nat.beq (Nat.mod i 2) 1)) (c (.n x .e .e)) (Nat.beq i 0)) f
noncomputable def T.set {α β : Type} (x : Option α) (t : T α) : Nat → (T α → β) → β :=
  T.rec (motive := fun _ => Nat → (T α → β) → β) (fun i c => T.setE x (Nat.succ i) i c)
    (fun v l r sl sr i c => Bool.rec (Bool.rec (sr (Nat.sub (Nat.div i 2) 1) fun r => c (.n v l r)) (sl (Nat.div i 2) fun l => c (.n v l r)) (Nat.beq (Nat.mod i 2) 1)) (c (.n x l r)) (Nat.beq i 0)) t
/-! Maps of a fixed depth: four ways at each step. -/
structure Q (α : Type) where
  a : α
  b : α
  c : α
  d : α
inductive Dig | a | b | c | z
  deriving DecidableEq
def dgt (x : Nat) : Dig := match Nat.mod x 4 with | 0 => .a | 1 => .b | 2 => .c | _ => .z
noncomputable def dg (k x : Nat) : Dig := dgt (Nat.div x k)
noncomputable def Q.at {α : Type} (q : Q α) (g : Dig) : α := Q.rec (fun a b c e => Dig.rec a b c e g) q
noncomputable def Q.put {α β : Type} (f : α → (α → β) → β) (g : Dig) (q : Q α) (k : Q α → β) : β :=
  Q.rec (fun a b c e => Dig.rec (f a fun a => k ⟨a, b, c, e⟩) (f b fun b => k ⟨a, b, c, e⟩) (f c fun c => k ⟨a, b, c, e⟩) (f e fun e => k ⟨a, b, c, e⟩) g) q
abbrev Q4 (α : Type) := Q (Q (Q (Q (Option α))))
abbrev Q8 (α : Type) := Q (Q (Q (Q (Q4 α))))
def Q.of {α : Type} (x : α) : Q α := ⟨x, x, x, x⟩
def Q4.e {α : Type} : Q4 α := .of (.of (.of (.of none)))
def Q8.e {α : Type} : Q8 α := .of (.of (.of (.of .e)))
noncomputable def Q4.get {α : Type} (q : Q4 α) (i : Nat) : Option α := (((q.at (dg 64 i)).at (dg 16 i)).at (dg 4 i)).at (dg 1 i)
noncomputable def Q8.get {α : Type} (q : Q8 α) (i : Nat) : Option α := Q4.get ((((q.at (dg 16384 i)).at (dg 4096 i)).at (dg 1024 i)).at (dg 256 i)) i
noncomputable def Q4.set {α β : Type} (x : Option α) (q : Q4 α) (i : Nat) (k : Q4 α → β) : β :=
  Q.put (Q.put (Q.put (Q.put (fun _ k => k x) (dg 1 i)) (dg 4 i)) (dg 16 i)) (dg 64 i) q k
noncomputable def Q8.set {α β : Type} (x : Option α) (q : Q8 α) (i : Nat) (k : Q8 α → β) : β :=
  Q.put (Q.put (Q.put (Q.put (fun q k => Q4.set x q i k) (dg 256 i)) (dg 1024 i)) (dg 4096 i)) (dg 16384 i) q k
/-- Force a number, an integer. -/
noncomputable def frc {β : Type} (x : Nat) (c : Nat → β) : β := Nat.rec (c 0) (fun y _ => c (Nat.succ y)) x
noncomputable def frcI {β : Type} (x : Int) (c : Int → β) : β := Int.rec (fun n => frc n fun n => c (.ofNat n)) (fun n => frc n fun n => c (.negSucc n)) x
/-! ### Abstract values -/
inductive Cap | k (n : Nat) | u (o : Nat)
inductive AV
  | b (v : Bool) | i (k : IntKind) (n : Int) | s (l : List UInt8)
  | p0 | p (x o : Nat)
  /-- se: an empty slice at the end of a row whose capacity is not known: its place is o if there is no room left, else d cells further on -/
  | sl0 | sl (x o n : Nat) (c : Cap) | se (x o d u : Nat)
  | m0 | m (x : Nat)
  | fn (f : Fn) (a c : List AV) | yl (x : Nat) | fn0
  | if0 | ifc (t : TypeId) (v : AV)
  | agg (l : List AV) | tup (l : List AV)
  /-- a value of one cell of which nothing is known but that it is one -/
  | ov (v : Value)
  /-- an integer of which some comparisons are known (which, with what, what comes out) -/
  | oi (k : IntKind) (x : Int) (ts : List (Nat × Int × Bool))
  /-- a string or a slice, of whose length x some comparisons are known -/
  | ol (v : Value) (x : Int) (ts : List (Nat × Int × Bool))
def AV.cells : AV → List AV
  | .agg l => l
  | v => [v]
/-- A ground value of one cell. -/
def cellOf : Value → Option AV
  | .bool b => some (.b b)
  | .int k n => some (.i k n)
  | .string s => some (.s s.data.toList)
  | .pointer none => some .p0
  | .slice none 0 0 => some .sl0
  | .map none => some .m0
  | .nilFunc => some .fn0
  | .nilIface => some .if0
  | _ => none
noncomputable def cellsOf (l : List Value) : Option (List AV) :=
  List.rec (some []) (fun v _ ih => match cellOf v with | some a => (match ih with | some r => some (a :: r) | none => none) | none => none) l
noncomputable def ofValue : Value → Option AV
  | .agg cs => match cellsOf cs.toList with | some l => some (.agg l) | none => none
  | .tuple cs => match cellsOf cs.toList with | some l => some (.tup l) | none => none
  | .iface t v => match cellOf v with | some a => some (.ifc t a) | none => none
  | v => cellOf v
/-- A ground abstract value, as the model has it. -/
def valOf1 : AV → Option Value
  | .b v => some (.bool v)
  | .i k n => some (.int k n)
  | .s l => some (.string ⟨⟨l⟩⟩)
  | .p0 => some (.pointer none)
  | .sl0 => some (.slice none 0 0)
  | .m0 => some (.map none)
  | .fn0 => some .nilFunc
  | .if0 => some .nilIface
  | _ => none
noncomputable def valsOf (l : List AV) : Option (List Value) :=
  List.rec (some []) (fun v _ ih => match valOf1 v with | some a => (match ih with | some r => some (a :: r) | none => none) | none => none) l
noncomputable def valOf : AV → Option Value
  | .agg l => match valsOf l with | some cs => some (.agg ⟨cs⟩) | none => none
  | .tup l => match valsOf l with | some cs => some (.tuple ⟨cs⟩) | none => none
  | .ifc t v => match valOf1 v with | some a => some (.iface t a) | none => none
  | v => valOf1 v
/-! ### Temporaries: those that regions hand on (V, as bits) lie in a map; those of a region and of the one before it in two lists. -/
inductive Env | mk (V : Nat) (l p : List (Nat × AV)) (q : Q4 AV)
noncomputable def lget (t : Nat) (d : Option AV) (l : List (Nat × AV)) : Option AV :=
  List.rec d (fun a _ ih => Bool.rec ih (some a.2) (Nat.beq a.1 t)) l
/-- Is t one of the set V (as bits)? -/
def isV (V t : Nat) : Bool := match Nat.blt t 256 with | true => Nat.beq (Nat.land (Nat.shiftRight V t) 1) 1 | false => false
noncomputable def Env.get (e : Env) (t : Nat) : Option AV :=
  Env.rec (fun V l p q => Bool.rec (lget t (lget t none p) l) (Q4.get q t) (isV V t)) e
noncomputable def Env.put {β : Type} (e : Env) (t : Nat) (v : AV) (k : Env → β) : β :=
  Env.rec (fun V l p q => Bool.rec (k (.mk V ((t, v) :: l) p q)) (Q4.set (some v) q t fun q => k (.mk V l p q)) (isV V t)) e
noncomputable def Env.fresh (e : Env) : Env := Env.rec (fun V l _ q => .mk V [] l q) e
/-! ### Abstract blocks -/
inductive Blk
  /-- cells: element type, what the cells hold at first, how many cells are known, those that were stored; whether these are all; whether the block may bear a mark -/
  | row (t : TypeId) (z : Nat → Option AV) (n : Nat) (c : T AV) (ex mk : Bool)
  | map (es : List (AV × AV × Nat)) (clock : Nat)
  | loop (st : LoopState) (pend : Option Code) (ps : List Tmp) (asg body : Code) (env : Env) (N : Nat) (d : Nat)
  | defd
  /-- an iterator over a map: which, its clock at first, what has come, its clock at the last step -/
  | iter (m : Option Nat) (since : Nat) (seen : List Nat) (last : Nat)
abbrev Heap := Q8 Blk
/-- The runs of the model that look at no memory. -/
noncomputable def prun {α : Type} (P : Program) (s : Sem α) : Option α :=
  Sem.rec (motive := fun _ => Option α) (fun a => some a) (fun _ _ _ _ => none) (fun _ _ _ _ _ => none) (fun _ _ _ => none) (fun _ _ _ => none) (fun _ _ _ _ => none)
    (fun _ _ _ => none) (fun _ _ _ => none) (fun _ _ _ _ => none) (fun _ _ _ => none) (fun _ _ _ => none) (fun _ ih => ih P) (fun _ _ ih => ih) (fun _ => none) s
/-! ### Types -/
def isAggB (P : Program) (t : TypeId) : Option Bool :=
  match P.underlying t with
  | some (.struct _) => some true
  | some (.array _ _) => some true
  | some _ => some false
  | none => none
def sizeB (P : Program) (t : TypeId) : Option Nat := match P.info? t with | some i => some i.size | none => none
noncomputable def zeroB (P : Program) (t : TypeId) : Option AV :=
  match P.info? t with
  | some i => (match i.zero with | some z => ofValue z | none => none)
  | none => none
/-- the cells of a zero value -/
noncomputable def zeroC (P : Program) (t : TypeId) : Option (List AV) :=
  match zeroB P t with
  | some (.tup _) => none
  | some z => some z.cells
  | none => none
/-! ### Cells -/
noncomputable def nth {α : Type} (l : List α) : Nat → Option α :=
  List.rec (motive := fun _ => Nat → Option α) (fun _ => none) (fun a _ ih i => Bool.rec (ih (Nat.sub i 1)) (some a) (Nat.beq i 0)) l
noncomputable def cellAt (z : Nat → Option AV) (n : Nat) (c : T AV) (i : Nat) : Option AV :=
  Bool.rec none (match c.get i with | some v => some v | none => z i) (Nat.blt i n)
noncomputable def len {α : Type} (l : List α) : Nat := List.rec 0 (fun _ _ ih => frc ih Nat.succ) l
/-- The cells of a zero element, again and again. -/
noncomputable def zpat (l : List AV) (i : Nat) : Option AV := nth l (Nat.mod i (len l))
/-- k cells from o on. -/
noncomputable def cellsAt (z : Nat → Option AV) (n : Nat) (c : T AV) (k : Nat) : Nat → Option (List AV) :=
  Nat.rec (motive := fun _ => Nat → Option (List AV)) (fun _ => some [])
    (fun _ ih o => match cellAt z n c o with | some v => (match ih (Nat.succ o) with | some l => some (v :: l) | none => none) | none => none) k
noncomputable def putCells {β : Type} (l : List AV) : T AV → Nat → (T AV → β) → β :=
  List.rec (motive := fun _ => T AV → Nat → (T AV → β) → β) (fun c _ k => k c)
    (fun v _ ih c o k => T.set (some v) c o fun c => frc (Nat.succ o) fun o => ih c o k) l
/-! ### What an operation comes to -/
inductive OR
  | val (v : AV) (n : Nat) (H : Heap)
  | call (f : FuncId) (args : List AV)
  | yld (x : Nat) (args : List AV)
  | dfr (f : FuncId) (args : List AV)
  | no (why : Nat)
noncomputable def opd (env : Env) (x : Operand) : Option AV :=
  Operand.rec (motive := fun _ => Env → Option AV) (fun t env => env.get t) (fun v _ => ofValue v) (fun g _ => match Nat.blt g 64 with | true => some (.p g 0) | false => none) (fun f _ => some (.fn (.func f) [] [])) x env
noncomputable def opds (env : Env) (l : List Operand) : Option (List AV) :=
  List.rec (some []) (fun x _ ih => match opd env x with | some a => (match ih with | some r => some (a :: r) | none => none) | none => none) l
def undefA : AV := .tup []
/-- Operations on ground values, by the model's own words. -/
noncomputable def groundEnv (env : Env) (x : Operand) : Value := match opd env x with | some a => (match valOf a with | some v => v | none => undef) | none => undef
noncomputable def allGround (env : Env) (l : List Operand) : Bool :=
  List.rec true (fun x _ ih => match opd env x with | some a => (match valOf a with | some _ => ih | none => false) | none => false) l
noncomputable def evGround (P : Program) (o : Oper) (env : Env) (n : Nat) (H : Heap) : OR :=
  match allGround env o.op.operands.toList with
  | false => .no 1
  | true => match prun P (execOp (groundEnv env) o) with
    | some (.value v) => (match ofValue v with
        | some (.i k x) => frcI x fun x => .val (.i k x) n H
        | some a => .val a n H
        | none => .no 2)
    | _ => .no 3
noncomputable def evMove (x : Operand) (env : Env) (n : Nat) (H : Heap) : OR := Option.rec (.no 4) (fun v => .val v n H) (opd env x)
noncomputable def evPick (c a b : Operand) (env : Env) (n : Nat) (H : Heap) : OR :=
  match opd env c with
  | some (.b true) => evMove a env n H
  | some (.b false) => evMove b env n H
  | _ => .no 5
/-- Rows of bytes may come to bear a mark. -/
def mkB (P : Program) (t : TypeId) : Bool := match P.underlying t with | some (.int .u8) => true | _ => false
/-- A new row: cells l of element type t. -/
noncomputable def newRowA (t : TypeId) (l : List AV) (ex mk : Bool) (n : Nat) (H : Heap) (k : Nat → Heap → OR) : OR :=
  putCells l .e 0 fun c => frc (len l) fun m => Q8.set (some (.row t (fun _ => none) m c ex mk)) H n fun H => frc (Nat.succ n) fun n' => k n' H
noncomputable def evAlloc (P : Program) (t : TypeId) (_env : Env) (n : Nat) (H : Heap) : OR :=
  match zeroC P t with
  | none => .no 6
  | some z => frc (len z) fun m => Q8.set (some (.row t (zpat z) m .e true false)) H n fun H => frc (Nat.succ n) fun n' => .val (.p n 0) n' H
noncomputable def evBox (_P : Program) (t : TypeId) (x : Operand) (env : Env) (n : Nat) (H : Heap) : OR :=
  match opd env x with
  | some (.tup _) => .no 117
  | some v => newRowA t v.cells true false n H fun n' H => .val (.p n 0) n' H
  | _ => .no 7
noncomputable def repl (place : Nat) (l : List AV) (v : List AV) : Option (List AV) :=
  Nat.rec (motive := fun _ => List AV → Option (List AV))
    (fun l => List.rec (motive := fun _ => List AV → Option (List AV)) (fun l => some l) (fun a _ ih l => match l with | [] => none | _ :: r => (match ih r with | some r => some (a :: r) | none => none)) v l)
    (fun _ ih l => match l with | [] => none | a :: r => (match ih r with | some r => some (a :: r) | none => none)) place l
noncomputable def fillA (place : Nat → Option (Nat × Nat)) (env : Env) (ps : List (Nat × Operand)) : List AV → Option (List AV) :=
  List.rec (motive := fun _ => List AV → Option (List AV)) (fun l => some l)
    (fun p _ ih l => match place p.1, opd env p.2 with
      | some (o, s), some v => (match Nat.beq (len v.cells) s, v with
          | true, .tup _ => none
          | true, v => (match repl o l v.cells with | some l => ih l | none => none)
          | false, _ => none)
      | _, _ => none) ps
noncomputable def places (P : Program) (fs : List Field) : Option (List (Nat × Nat)) :=
  List.rec (some []) (fun f _ ih => match sizeB P f.type with | some s => (match ih with | some r => some ((f.offset, s) :: r) | none => none) | none => none) fs
noncomputable def evBuild (P : Program) (t : TypeId) (ps : List (Nat × Operand)) (env : Env) (n : Nat) (H : Heap) : OR :=
  match zeroC P t, P.underlying t with
  | some z, some (.struct fs) => (match places P fs.toList with
      | some pl => (match fillA (nth pl) env ps z with | some l => .val (.agg l) n H | none => .no 8)
      | none => .no 9)
  | some z, some (.array _ e) => (match sizeB P e with
      | some s => (match fillA (fun i => some (Nat.mul i s, s)) env ps z with | some l => .val (.agg l) n H | none => .no 10)
      | none => .no 11)
  | _, _ => .no 12
noncomputable def times (z : List AV) (k : Nat) : List AV := Nat.rec [] (fun _ ih => z ++ ih) k
noncomputable def evBuildSlice (P : Program) (t : TypeId) (m : Nat) (ps : List (Nat × Operand)) (env : Env) (n : Nat) (H : Heap) : OR :=
  match P.underlying t with
  | some (.slice e) => (match zeroC P e, sizeB P e with
      | some z, some s => (match Nat.ble (Nat.mul m s) (2 ^ 24), Nat.beq (len z) s, fillA (fun i => some (Nat.mul i s, s)) env ps (times z m) with
          | true, true, some l => newRowA e l true (mkB P e) n H fun n' H => .val (.sl n 0 m (.k m)) n' H
          | _, _, _ => .no 13)
      | _, _ => .no 14)
  | _ => .no 15
noncomputable def evLoad (P : Program) (t : TypeId) (x : Operand) (env : Env) (n : Nat) (H : Heap) : OR :=
  match opd env x with
  | some (.p y o) => (match Q8.get H y with
      | some (.row _ z m c _ _) => (match isAggB P t with
          | some false => (match cellAt z m c o with | some v => .val v n H | none => .no 16)
          | some true => (match sizeB P t with
              | some s => (match cellsAt z m c s o with | some l => .val (.agg l) n H | none => .no 17)
              | none => .no 18)
          | none => .no 19)
      | _ => .no 20)
  | _ => .no 21
noncomputable def evStore (P : Program) (t : TypeId) (x v : Operand) (env : Env) (n : Nat) (H : Heap) : OR :=
  match opd env x, opd env v with
  | some (.p y o), some a => (match Q8.get H y, sizeB P t with
      | some (.row e z m c ex mk), some s => (match a, Nat.beq (len a.cells) s, Nat.ble (Nat.add o s) m with
          | .tup _, _, _ => .no 118
          | a, true, true => putCells a.cells c o fun c => Q8.set (some (.row e z m c ex mk)) H y fun H => .val undefA n H
          | _, _, _ => .no 22)
      | _, _ => .no 23)
  | _, _ => .no 24
noncomputable def evNilCheck (x : Operand) (env : Env) (n : Nat) (H : Heap) : OR :=
  match opd env x with
  | some (.p y o) => .val (.p y o) n H
  | some (.yl y) => .val (.yl y) n H
  | some (.fn (.func f) a c) => .val (.fn (.func f) a c) n H
  | _ => .no 25
/-- Is a pointer, a map, a function, a slice nil? -/
def isNil : AV → Option Bool
  | .p0 => some true | .p _ _ => some false
  | .sl0 => some true | .sl _ _ _ _ => some false
  | .m0 => some true | .m _ => some false
  | .fn0 => some true | .fn (.func _) _ _ => some false | .yl _ => some false
  | .if0 => some true | .ifc _ _ => some false
  | _ => none
def sameSort : AV → AV → Bool
  | .p0, .p _ _ => true | .p _ _, .p0 => true
  | .sl0, .sl _ _ _ _ => true | .sl _ _ _ _, .sl0 => true
  | .m0, .m _ => true | .m _, .m0 => true
  | .fn0, .fn _ _ _ => true | .fn _ _ _, .fn0 => true
  | .fn0, .yl _ => true | .yl _, .fn0 => true
  | .if0, .ifc _ _ => true | .ifc _ _, .if0 => true
  | _, _ => false
def kindFits : TypeDesc → AV → Bool
  | .pointer _, .p _ _ => true
  | .slice _, .sl _ _ _ _ => true
  | .map _ _, .m _ => true
  | .func _ _ _, .fn _ _ _ => true
  | .func _ _ _, .yl _ => true
  | .interface _, .ifc _ _ => true
  | _, _ => false
/-- Equality where an address is one of the two. -/
noncomputable def eqA (P : Program) (t : TypeId) (H : Heap) (a b : AV) : Option Bool :=
  match P.underlying t with
  | none => none
  | some d => match sameSort a b with
    | true => (match kindFits d a || kindFits d b with | true => some false | false => none)
    | false => match d, a, b with
      | .pointer e, .p x o, .p y q => (match sizeB P e with
          | none => none
          | some 0 => none
          | some _ => (match Q8.get H x, Q8.get H y with
              | some (.row _ _ _ _ _ false), some (.row _ _ _ _ _ false) => (match Nat.beq x y with | true => some (Nat.beq o q) | false => some false)
              | _, _ => none))
      | _, _, _ => none
noncomputable def wrapV (x : Int) (k : IntKind) (n : Nat) (H : Heap) : OR := frcI (k.wrap x) fun x => .val (.i k x) n H
/-- The bound below which no wrapping is wanted. -/
def lid : IntKind → Nat
  | .i8 => 127 | .i16 => 32767 | .i32 => 2147483647 | .i64 => 9223372036854775807
  | .u8 => 255 | .u16 => 65535 | .u32 => 4294967295 | .u64 => 18446744073709551615
def ikEq : IntKind → IntKind → Bool
  | .i8, .i8 => true | .i16, .i16 => true | .i32, .i32 => true | .i64, .i64 => true
  | .u8, .u8 => true | .u16, .u16 => true | .u32, .u32 => true | .u64, .u64 => true
  | _, _ => false
noncomputable def natV (k : IntKind) (x : Nat) (n : Nat) (H : Heap) (e : OR) : OR := Bool.rec e (frc x fun x => .val (.i k (.ofNat x)) n H) (Nat.ble x (lid k))
noncomputable def boolV (b : Bool) (n : Nat) (H : Heap) : OR := Bool.rec (.val (.b false) n H) (.val (.b true) n H) b
/-- The quick roads for numbers from 0 on. -/
noncomputable def eqI (a b : Int) : Bool :=
  match a, b with
  | .ofNat a, .ofNat b => Nat.beq a b
  | .negSucc a, .negSucc b => Nat.beq a b
  | _, _ => false
def cmpC : BinOp → Nat
  | .eql => 1 | .neq => 2 | .lss => 3 | .leq => 4 | .gtr => 5 | .geq => 6 | _ => 0
noncomputable def lookT (c : Nat) (m : Int) (ts : List (Nat × Int × Bool)) : Option Bool :=
  List.rec none (fun t _ ih => match Nat.beq t.1 c, eqI t.2.1 m with | true, true => some t.2.2 | _, _ => ih) ts
noncomputable def evBin (P : Program) (o : Oper) (op : BinOp) (t : TypeId) (x y : Operand) (env : Env) (n : Nat) (H : Heap) : OR :=
  match opd env x, opd env y with
  | some (.i k (.ofNat a)), some (.i k' (.ofNat b)) =>
    (match ikEq k k' with
    | true => (match op with
      | .add => natV k (Nat.add a b) n H (evGround P o env n H)
      | .sub => Bool.rec (evGround P o env n H) (natV k (Nat.sub a b) n H (evGround P o env n H)) (Nat.ble b a)
      | .mul => natV k (Nat.mul a b) n H (evGround P o env n H)
      | .eql => boolV (Nat.beq a b) n H
      | .neq => boolV (Bool.not (Nat.beq a b)) n H
      | .lss => boolV (Nat.blt a b) n H
      | .leq => boolV (Nat.ble a b) n H
      | .gtr => boolV (Nat.blt b a) n H
      | .geq => boolV (Nat.ble b a) n H
      | _ => evGround P o env n H)
    | false => evGround P o env n H)
  | some (.oi k _ ts), some (.i k' m) =>
    (match ikEq k k', lookT (cmpC op) m ts with
    | true, some r => boolV r n H
    | _, _ => .no 120)
  | some a, some b => (match op with
      | .eql => (match eqA P t H a b with | some r => boolV r n H | none => evGround P o env n H)
      | .neq => (match eqA P t H a b with | some r => boolV (Bool.not r) n H | none => evGround P o env n H)
      | _ => evGround P o env n H)
  | _, _ => .no 26
noncomputable def evFieldAddr (P : Program) (s : TypeId) (x : Operand) (f : Nat) (env : Env) (n : Nat) (H : Heap) : OR :=
  match opd env x with
  | some (.p y o) => (match P.underlying s with
      | some (.struct fs) => (match nth fs.toList f with
          | some fl => (match sizeB P fl.type with | some (Nat.succ _) => frc (Nat.add o fl.offset) fun o => .val (.p y o) n H | _ => .no 116)
          | none => .no 27)
      | _ => .no 28)
  | _ => .no 29
noncomputable def partA (P : Program) (t : TypeId) (cs : List AV) (off : Nat) (n : Nat) (H : Heap) : OR :=
  match isAggB P t, sizeB P t with
  | some true, some s => .val (.agg ((cs.drop off).take s)) n H
  | some false, some _ => (match nth cs off with | some v => .val v n H | none => .no 30)
  | _, _ => .no 31
noncomputable def evField (P : Program) (t : TypeId) (x : Operand) (f : Nat) (env : Env) (n : Nat) (H : Heap) : OR :=
  match opd env x, P.underlying t with
  | some (.agg cs), some (.struct fs) => (match nth fs.toList f with | some fl => partA P fl.type cs fl.offset n H | none => .no 32)
  | _, _ => .no 33
noncomputable def evIndexAddr (P : Program) (t : TypeId) (x ix : Operand) (env : Env) (n : Nat) (H : Heap) : OR :=
  match opd env x, opd env ix, P.underlying t with
  | some (.p y o), some (.i _ (.ofNat i)), some (.array m e) => (match sizeB P e, Nat.blt i m with
      | some s, true => frc (Nat.add o (Nat.mul i s)) fun o => .val (.p y o) n H
      | _, _ => .no 34)
  | some (.sl y o m _), some (.i _ (.ofNat i)), some (.slice e) => (match sizeB P e, Nat.blt i m with
      | some s, true => frc (Nat.add o (Nat.mul i s)) fun o => .val (.p y o) n H
      | _, _ => .no 35)
  | _, _, _ => .no 36
noncomputable def evIndex (P : Program) (o : Oper) (t : TypeId) (x ix : Operand) (env : Env) (n : Nat) (H : Heap) : OR :=
  match opd env x, opd env ix, P.underlying t with
  | some (.agg cs), some (.i _ (.ofNat i)), some (.array m e) => (match sizeB P e, Nat.blt i m with
      | some s, true => partA P e cs (Nat.mul i s) n H
      | _, _ => .no 37)
  | some (.s l), some (.i _ (.ofNat i)), some .string => (match nth l i with
      | some b => frc b.toNat fun b => .val (.i .u8 (.ofNat b)) n H
      | none => .no 38)
  | _, _, _ => evGround P o env n H
/-- A bound of a slice: the operand's number, or what stands in its place. -/
noncomputable def bnd (env : Env) (x : Option Operand) (d : Nat) : Option Nat :=
  match x with
  | none => some d
  | some x => (match opd env x with | some (.i _ (.ofNat i)) => some i | _ => none)
noncomputable def evSlice (P : Program) (o : Oper) (t : TypeId) (x : Operand) (lo hi mx : Option Operand) (env : Env) (n : Nat) (H : Heap) : OR :=
  match opd env x, P.underlying t, mx with
  | some (.sl y b m c), some (.slice e), none => (match sizeB P e, bnd env lo 0, bnd env hi m with
      | some s, some l, some h => (match Nat.ble l h with
          | false => .no 39
          | true => (match c with
              | .k k => (match Nat.ble h k with
                  | true => frc (Bool.rec (Nat.add b (Nat.mul l s)) b (Nat.beq k l)) fun b => frc (Nat.sub h l) fun m => frc (Nat.sub k l) fun k => .val (.sl y b m (.k k)) n H
                  | false => .no 40)
              | .u u => (match Nat.ble h m && (Nat.blt l m || Nat.beq l 0) with
                  | true => frc (Nat.add b (Nat.mul l s)) fun b => frc (Nat.sub h l) fun m => frc (Nat.add u l) fun u => .val (.sl y b m (.u u)) n H
                  | false => (match Nat.beq h m && Nat.beq l m with
                      | true => frc (Nat.mul l s) fun d => frc (Nat.add u l) fun u => .val (.se y b d u) n H
                      | false => .no 41))))
      | _, _, _ => .no 42)
  | some (.se y b d u), some (.slice e), none => (match bnd env lo 0, bnd env hi 0, sizeB P e with
      | some 0, some 0, some _ => .val (.se y b d u) n H
      | _, _, _ => .no 108)
  | some (.p y b), some (.array m e), none => (match sizeB P e, bnd env lo 0, bnd env hi m with
      | some s, some l, some h => (match Nat.ble l h && Nat.ble h m with
          | true => frc (Bool.rec (Nat.add b (Nat.mul l s)) b (Nat.beq m l)) fun b => frc (Nat.sub h l) fun h => frc (Nat.sub m l) fun k => .val (.sl y b h (.k k)) n H
          | false => .no 43)
      | _, _, _ => .no 44)
  | _, _, _ => evGround P o env n H
noncomputable def evExtract (x : Operand) (ix : Nat) (env : Env) (n : Nat) (H : Heap) : OR :=
  match opd env x with
  | some (.tup l) => (match nth l ix with | some v => .val v n H | none => .no 45)
  | _ => .no 46
noncomputable def evMakeFunc (f : Fn) (a c : List Operand) (env : Env) (n : Nat) (H : Heap) : OR :=
  match f, opds env a, opds env c with
  | .func g, some a, some c => .val (.fn (.func g) a c) n H
  | _, _, _ => .no 47
noncomputable def evMakeInterface (P : Program) (t : TypeId) (x : Operand) (env : Env) (n : Nat) (H : Heap) : OR :=
  match opd env x, P.underlying t with
  | some _, some (.interface _) => .no 48
  | some v, some _ => .val (.ifc t v) n H
  | _, _ => .no 49
noncomputable def evMakeMap (P : Program) (t : TypeId) (r : Option Operand) (env : Env) (n : Nat) (H : Heap) : OR :=
  match r with
  | none => Q8.set (some (.map [] 0)) H n fun H => frc (Nat.succ n) fun n' => .val (.m n) n' H
  | some x => (match opd env x, P.underlying t with
      | some (.i _ _), some (.map _ _) => Q8.set (some (.map [] 0)) H n fun H => frc (Nat.succ n) fun n' => .val (.m n) n' H
      | _, _ => .no 50)
noncomputable def bytesB (P : Program) (t : TypeId) : Option Nat := match P.info? t with | some i => some i.bytes | none => none
noncomputable def evMakeSlice (P : Program) (t : TypeId) (l c : Operand) (env : Env) (n : Nat) (H : Heap) : OR :=
  match opd env l, opd env c, P.underlying t with
  | some (.i _ (.ofNat l)), some (.i _ (.ofNat c)), some (.slice e) => (match zeroC P e, sizeB P e, bytesB P e with
      | some z, some s, some b => (match Nat.ble l c && Nat.ble (Nat.mul b c) (2 ^ 48) && Nat.ble c (2 ^ 48) && Nat.beq (len z) s with
          | true => frc (Nat.mul c s) fun m => Q8.set (some (.row e (zpat z) m .e true (mkB P e))) H n fun H => frc (Nat.succ n) fun n' => .val (.sl n 0 l (.k c)) n' H
          | false => .no 51)
      | _, _, _ => .no 52)
  | _, _, _ => .no 53
/-! ### Maps whose keys are integers, strings or bools -/
noncomputable def keyEq : AV → AV → Option Bool
  | .i j (.ofNat a), .i k (.ofNat b) => Bool.rec none (some (Nat.beq a b)) (ikEq j k)
  | .s a, .s b => some (a == b)
  | .b a, .b b => some (a == b)
  | _, _ => none
def keyType : TypeDesc → AV → Bool
  | .int _, .i _ (.ofNat _) => true
  | .string, .s _ => true
  | .bool, .b _ => true
  | _, _ => false
/-- the place of a key: none: there is one that cannot be compared -/
noncomputable def findK (k : AV) (es : List (AV × AV × Nat)) : Nat → Option (Option (Nat × AV × Nat)) :=
  List.rec (motive := fun _ => Nat → Option (Option (Nat × AV × Nat))) (fun _ => some none)
    (fun e _ ih i => match keyEq k e.1 with
      | some true => some (some (i, e.2))
      | some false => ih (Nat.succ i)
      | none => none) es
noncomputable def evLookup (P : Program) (t : TypeId) (m k : Operand) (ok : Bool) (env : Env) (n : Nat) (H : Heap) : OR :=
  match opd env m, opd env k, P.underlying t with
  | some (.m y), some kv, some (.map kt e) => (match Q8.get H y, P.underlying kt, zeroB P e with
      | some (.map es _), some d, some z => (match keyType d kv, findK kv es 0 with
          | true, some (some (_, v, _)) => Bool.rec (.val v n H) (.val (.tup [v, .b true]) n H) ok
          | true, some none => Bool.rec (.val z n H) (.val (.tup [z, .b false]) n H) ok
          | _, _ => .no 54)
      | _, _, _ => .no 55)
  | some .m0, some kv, some (.map kt e) => (match P.underlying kt, zeroB P e with
      | some d, some z => (match keyType d kv with
          | true => Bool.rec (.val z n H) (.val (.tup [z, .b false]) n H) ok
          | false => .no 54)
      | _, _ => .no 55)
  | _, _, _ => .no 56
noncomputable def modAt (es : List (AV × AV × Nat)) (g : AV × AV × Nat → AV × AV × Nat) : Nat → List (AV × AV × Nat) :=
  List.rec (motive := fun _ => Nat → List (AV × AV × Nat)) (fun _ => []) (fun e r ih i => Bool.rec (e :: ih (Nat.sub i 1)) (g e :: r) (Nat.beq i 0)) es
/-- make all of a list's spine plain -/
noncomputable def frcL {α β : Type} (l : List α) : (List α → β) → β :=
  List.rec (motive := fun _ => (List α → β) → β) (fun c => c []) (fun a _ ih c => ih fun r => c (a :: r)) l
noncomputable def evMapUpdate (P : Program) (t : TypeId) (m k x : Operand) (env : Env) (n : Nat) (H : Heap) : OR :=
  match opd env m, opd env k, opd env x, P.underlying t with
  | some (.m y), some kv, some v, some (.map kt _) => (match Q8.get H y, P.underlying kt with
      | some (.map es cl), some d => (match keyType d kv, findK kv es 0 with
          | true, some (some (i, _)) => frcL (modAt es (fun e => (kv, v, e.2.2)) i) fun es => Q8.set (some (.map es cl)) H y fun H => .val undefA n H
          | true, some none => frcL (es ++ [(kv, v, cl)]) fun es => frc (Nat.succ cl) fun cl => Q8.set (some (.map es cl)) H y fun H => .val undefA n H
          | _, _ => .no 57)
      | _, _ => .no 58)
  | _, _, _, _ => .no 59
noncomputable def evMapEntry (P : Program) (t : TypeId) (m k : Operand) (env : Env) (n : Nat) (H : Heap) : OR :=
  match opd env m, opd env k, P.underlying t with
  | some (.m y), some kv, some (.map kt e) => (match Q8.get H y, P.underlying kt, zeroB P e with
      | some (.map es cl), some d, some z => (match keyType d kv, findK kv es 0 with
          | true, some (some (i, v, b)) => frcL (modAt es (fun e => (kv, e.2)) i) fun es => Q8.set (some (.map es cl)) H y fun H => .val (.tup [v, .i .i64 (.ofNat b)]) n H
          | true, some none => frcL (es ++ [(kv, z, cl)]) fun es => Q8.set (some (.map es (Nat.succ cl))) H y fun H => .val (.tup [z, .i .i64 (.ofNat cl)]) n H
          | _, _ => .no 60)
      | _, _, _ => .no 61)
  | _, _, _ => .no 62
noncomputable def findB (b : Nat) (es : List (AV × AV × Nat)) : Nat → Option Nat :=
  List.rec (motive := fun _ => Nat → Option Nat) (fun _ => none) (fun e _ ih i => Bool.rec (ih (Nat.succ i)) (some i) (Nat.beq e.2.2 b)) es
noncomputable def evEntryStore (m s x : Operand) (env : Env) (n : Nat) (H : Heap) : OR :=
  match opd env m, opd env s, opd env x with
  | some (.m y), some (.i _ (.ofNat b)), some v => (match Q8.get H y with
      | some (.map es cl) => (match findB b es 0 with
          | some i => frcL (modAt es (fun e => (e.1, v, e.2.2)) i) fun es => Q8.set (some (.map es cl)) H y fun H => .val undefA n H
          | none => .no 63)
      | _ => .no 64)
  | _, _, _ => .no 65
noncomputable def eraseAt (es : List (AV × AV × Nat)) : Nat → List (AV × AV × Nat) :=
  List.rec (motive := fun _ => Nat → List (AV × AV × Nat)) (fun _ => []) (fun e r ih i => Bool.rec (e :: ih (Nat.sub i 1)) r (Nat.beq i 0)) es
/-! ### Ranges over a map of which at most one entry is left -/
noncomputable def memN (b : Nat) (l : List Nat) : Bool := List.rec false (fun a _ ih => match Nat.beq a b with | true => true | false => ih) l
noncomputable def leftL (seen : List Nat) (es : List (AV × AV × Nat)) : List (AV × AV × Nat) := List.rec [] (fun e _ ih => match memN e.2.2 seen with | true => ih | false => e :: ih) es
noncomputable def allGe (last : Nat) (es : List (AV × AV × Nat)) : Bool := List.rec true (fun e _ ih => match Nat.ble last e.2.2 with | true => ih | false => false) es
noncomputable def staleB (seen : List Nat) (es : List (AV × AV × Nat)) (last : Nat) : Bool :=
  match seen, es with
  | [], _ => false
  | _, [] => false
  | _ :: _, _ :: _ => allGe last es
noncomputable def getB (b : Nat) (es : List (AV × AV × Nat)) : Option (AV × AV × Nat) := List.rec none (fun e _ ih => match Nat.beq e.2.2 b with | true => some e | false => ih) es
noncomputable def evMapRange (P : Program) (t : TypeId) (x : Operand) (env : Env) (n : Nat) (H : Heap) : OR :=
  match opd env x, P.underlying t with
  | some .m0, some (.map _ _) => Q8.set (some (.iter none 0 [] 0)) H n fun H => frc (Nat.succ n) fun n' => .val (.p n 0) n' H
  | some (.m y), some (.map _ _) => (match Q8.get H y with
      | some (.map _ cl) => Q8.set (some (.iter (some y) cl [] cl)) H n fun H => frc (Nat.succ n) fun n' => .val (.p n 0) n' H
      | _ => .no 122)
  | _, _ => .no 123
noncomputable def evMapNext (it : Operand) (str : Bool) (env : Env) (n : Nat) (H : Heap) : OR :=
  match str, opd env it with
  | false, some (.p y 0) => (match Q8.get H y with
      | some (.iter none _ _ _) => .val (.tup [.b false]) n H
      | some (.iter (some z) since seen last) => (match Q8.get H z with
          | some (.map es cl) => (match staleB seen es last, leftL seen es with
              | false, [] => .val (.tup [.b false]) n H
              | false, [e] => (match Nat.blt e.2.2 since with
                  | true => frcL (seen ++ [e.2.2]) fun sn => Q8.set (some (.iter (some z) since sn cl)) H y fun H => .val (.tup [.b true, e.1, e.2.1]) n H
                  | false => .no 124)
              | _, _ => .no 125)
          | _ => .no 126)
      | _ => .no 127)
  | _, _ => .no 128
noncomputable def evItEntry (it : Operand) (env : Env) (n : Nat) (H : Heap) : OR :=
  match opd env it with
  | some (.p y 0) => (match Q8.get H y with
      | some (.iter (some z) _ seen last) => (match seen.getLast?, Q8.get H z with
          | some b, some (.map es cl) => (match Nat.beq cl last, getB b es with
              | true, some e => .val (.tup [e.1, e.2.1]) n H
              | _, _ => .no 129)
          | _, _ => .no 130)
      | _ => .no 131)
  | _ => .no 132
/-! ### Builtins -/
/-- The cells of n elements (of s cells) of a slice or a string, as append and copy read them. -/
noncomputable def srcCells (H : Heap) (s n : Nat) : AV → Option (List AV)
  | .sl0 => some []
  | .se _ _ _ _ => (match n with | 0 => some [] | _ => none)
  | .sl y o _ _ => (match Q8.get H y with | some (.row _ z m c _ _) => cellsAt z m c (Nat.mul n s) o | _ => none)
  | .s l => some ((l.take n).map fun b => .i .u8 (.ofNat b.toNat))
  | _ => none
noncomputable def lenA : AV → Option Nat
  | .sl0 => some 0
  | .se _ _ _ _ => some 0
  | .sl _ _ n _ => some n
  | .s l => some (len l)
  | _ => none
/-- How many elements an append brings, and their cells. -/
noncomputable def appN (P : Program) (t' : TypeId) (x : AV) : Option Nat :=
  match P.underlying t', x with
  | some (.int .i64), .i .i64 (.ofNat k) => some k
  | some (.slice _), x => lenA x
  | some .string, x => lenA x
  | _, _ => none
noncomputable def appC (P : Program) (t' : TypeId) (H : Heap) (sz k : Nat) (z : List AV) (x : AV) : Option (List AV) :=
  match P.underlying t' with
  | some (.int _) => some (times z k)
  | some _ => srcCells H sz k x
  | none => none
noncomputable def evApp (P : Program) (e : TypeId) (sz m k : Nat) (s : AV) (new : List AV) (n : Nat) (H : Heap) : OR :=
  frc (Nat.add m k) fun need => (match s with
  | .sl0 => (match k with
      | 0 => .val .sl0 n H
      | _ => newRowA e new false (mkB P e) n H fun n' H => .val (.sl n 0 need (.u 0)) n' H)
  | .sl y o m (.k c) => (match Q8.get H y with
      | some (.row e' z' r cs ex mk) => (match Nat.ble need c with
          | true => (match Nat.ble (Nat.add o (Nat.mul need sz)) r with
              | true => putCells new cs (Nat.add o (Nat.mul m sz)) fun cs => Q8.set (some (.row e' z' r cs ex mk)) H y fun H => .val (.sl y o need (.k c)) n H
              | false => .no 67)
          | false => (match cellsAt z' r cs (Nat.mul m sz) o with
              | some old => frcL (old ++ new) fun l => newRowA e l false (mkB P e) n H fun n' H => .val (.sl n 0 need (.u 0)) n' H
              | none => .no 68))
      | _ => .no 69)
  | .sl y o m (.u u) => (match Q8.get H y with
      | some (.row e' z' r cs ex mk) => (match Nat.beq o (Nat.mul u sz) && Nat.beq e e' && Bool.not ex with
          | false => .no 71
          | true => (match Nat.ble (Nat.add o (Nat.mul need sz)) r with
              | true => putCells new cs (Nat.add o (Nat.mul m sz)) fun cs => Q8.set (some (.row e' z' r cs ex mk)) H y fun H => .val (.sl y o need (.u u)) n H
              | false => (match o with
                  | 0 => (match cellsAt z' r cs (Nat.mul m sz) 0 with
                      | some old => frcL (old ++ new) fun l => Q8.set none H y fun H => newRowA e l false (mkB P e || mk) n H fun n' H => .val (.sl n 0 need (.u 0)) n' H
                      | none => .no 70)
                  | _ => .no 72)))
      | _ => .no 73)
  | _ => .no 74)
noncomputable def evAppend (P : Program) (ts : List TypeId) (as : List Operand) (env : Env) (n : Nat) (H : Heap) : OR :=
  match ts, as with
  | t :: t' :: _, [a, b] => (match P.underlying t, opd env a, opd env b with
    | some (.slice e), some s, some x => (match sizeB P e, zeroC P e, bytesB P e, lenA s, appN P t' x with
      | some sz, some z, some by_, some m, some k => (match Nat.ble (Nat.mul (Nat.add 1024 (Nat.mul 4 (Nat.add m k))) (Nat.add by_ 1)) (2 ^ 40), Nat.beq (len z) sz, Nat.blt 0 sz with
        | true, true, true => (match appC P t' H sz k z x with
          | some new => (match Nat.beq (len new) (Nat.mul k sz) with | true => evApp P e sz m k s new n H | false => .no 119)
          | none => .no 75)
        | _, _, _ => .no 76)
      | _, _, _, _, _ => .no 77)
    | _, _, _ => .no 78)
  | _, _ => .no 66
noncomputable def evLen (P : Program) (o : Oper) (ts : List TypeId) (as : List Operand) (env : Env) (n : Nat) (H : Heap) : OR :=
  match ts, as with
  | t :: _, a :: _ => (match P.underlying t, opd env a with
      | some (.slice _), some (.sl _ _ m _) => .val (.i .i64 (.ofNat m)) n H
      | some (.slice _), some .sl0 => .val (.i .i64 (.ofNat 0)) n H
      | some (.slice _), some (.se _ _ _ _) => .val (.i .i64 (.ofNat 0)) n H
      | some (.array m _), some _ => .val (.i .i64 (.ofNat m)) n H
      | some (.pointer p), some _ => (match P.underlying p with | some (.array m _) => .val (.i .i64 (.ofNat m)) n H | _ => .no 79)
      | some (.map _ _), some (.m y) => (match Q8.get H y with | some (.map es _) => frc (len es) fun m => .val (.i .i64 (.ofNat m)) n H | _ => .no 80)
      | some .string, some (.s l) => frc (len l) fun m => .val (.i .i64 (.ofNat m)) n H
      | some (.slice _), some (.ol (.slice _ _ _) x ts) => .val (.oi .i64 x ts) n H
      | some .string, some (.ol (.string _) x ts) => .val (.oi .i64 x ts) n H
      | some _, some _ => evGround P o env n H
      | _, _ => .no 81)
  | _, _ => .no 82
noncomputable def evCopy (P : Program) (ts : List TypeId) (as : List Operand) (env : Env) (n : Nat) (H : Heap) : OR :=
  match ts, as with
  | t :: _, [a, b] => (match P.underlying t, opd env a, opd env b with
    | some (.slice e), some d, some x => (match sizeB P e, lenA d, lenA x with
      | some sz, some dl, some xl => frc (Nat.min xl dl) fun k => (match srcCells H sz k x with
        | some l => (match d with
          | .sl0 => .val (.i .i64 (.ofNat k)) n H
          | .se _ _ _ _ => .val (.i .i64 (.ofNat k)) n H
          | .sl y o _ _ => (match Q8.get H y with
              | some (.row e' z' r cs ex mk) => (match Nat.ble (Nat.add o (len l)) r with
                  | true => putCells l cs o fun cs => Q8.set (some (.row e' z' r cs ex mk)) H y fun H => .val (.i .i64 (.ofNat k)) n H
                  | false => .no 83)
              | _ => .no 84)
          | _ => .no 85)
        | none => .no 86)
      | _, _, _ => .no 87)
    | _, _, _ => .no 88)
  | _, _ => .no 89
noncomputable def evClear (P : Program) (ts : List TypeId) (as : List Operand) (env : Env) (n : Nat) (H : Heap) : OR :=
  match ts, as with
  | t :: _, a :: _ => (match P.underlying t, opd env a with
    | some (.slice e), some (.sl y o m _) => (match sizeB P e, zeroC P e, Q8.get H y with
      | some sz, some z, some (.row e' z' r cs ex mk) => (match Nat.beq (len z) sz, Nat.ble (Nat.add o (Nat.mul m sz)) r with
          | true, true => putCells (times z m) cs o fun cs => Q8.set (some (.row e' z' r cs ex mk)) H y fun H => .val undefA n H
          | _, _ => .no 112)
      | _, _, _ => .no 113)
    | some (.slice _), some .sl0 => .val undefA n H
    | some (.slice _), some (.se _ _ _ _) => .val undefA n H
    | _, _ => .no 114)
  | _, _ => .no 115
noncomputable def evDelete (P : Program) (ts : List TypeId) (as : List Operand) (env : Env) (n : Nat) (H : Heap) : OR :=
  match ts, as with
  | t :: _, a :: b :: _ => (match P.underlying t, opd env a, opd env b with
    | some (.map kt _), some (.m y), some kv => (match Q8.get H y, P.underlying kt with
      | some (.map es cl), some d => (match keyType d kv, findK kv es 0 with
          | true, some (some (i, _)) => frcL (eraseAt es i) fun es => Q8.set (some (.map es cl)) H y fun H => .val undefA n H
          | true, some none => .val undefA n H
          | _, _ => .no 90)
      | _, _ => .no 91)
    | _, _, _ => .no 92)
  | _, _ => .no 93
noncomputable def evCap (P : Program) (ts : List TypeId) (as : List Operand) (env : Env) (n : Nat) (H : Heap) : OR :=
  match ts, as with
  | t :: _, a :: _ => (match P.underlying t, opd env a with
      | some (.slice _), some (.sl _ _ _ (.k k)) => .val (.i .i64 (.ofNat k)) n H
      | some (.slice _), some .sl0 => .val (.i .i64 (.ofNat 0)) n H
      | _, _ => .no 100)
  | _, _ => .no 101
noncomputable def evConvert (P : Program) (o : Oper) (s d : TypeId) (x : Operand) (env : Env) (n : Nat) (H : Heap) : OR :=
  match P.underlying s, P.underlying d, opd env x with
  | some (.int _), some (.int k), some (.i _ (.ofNat a)) => natV k a n H (evGround P o env n H)
  | some .string, some (.slice e), some (.s l) => (match P.underlying e, sizeB P e with
      | some (.int .u8), some z => (match Nat.beq z 1 with
          | true => frcL (l.map fun b => AV.i .u8 (.ofNat b.toNat)) fun cs => frc (len l) fun m => newRowA e cs false true n H fun n' H => .val (.sl n 0 m (.u 0)) n' H
          | false => .no 94)
      | _, _ => .no 95)
  | some (.slice _), some (.slice e), some (.sl y q m c) => (match P.underlying e, Nat.beq s d, Q8.get H y with
      | some (.int .u8), true, some (.row _ _ _ _ _ true) => .val (.sl y q m c) n H
      | _, _, _ => .no 107)
  | some (.slice e), some .string, some a => (match P.underlying e, a with
      | some (.int .u8), .sl0 => .val (.s []) n H
      | some (.int .u8), .se _ _ _ _ => .val (.s []) n H
      | some (.int .u8), .sl y q m _ => (match Q8.get H y with
          | some (.row _ z r c _ _) => (match cellsAt z r c m q with
              | some l => (match (List.rec (some []) (fun v _ ih => match v with | .i .u8 (.ofNat b) => (match ih with | some r => some (UInt8.ofNat b :: r) | none => none) | _ => none) l : Option (List UInt8)) with
                  | some l => .val (.s l) n H
                  | none => .no 96)
              | none => .no 97)
          | _ => .no 98)
      | _, _ => .no 99)
  | _, _, _ => evGround P o env n H
/-- A value, or nothing. -/
noncomputable def vo (r : OR) : OR := OR.rec (fun v n H => .val v n H) (fun _ _ => .no 236) (fun _ _ => .no 236) (fun _ _ => .no 236) (fun k => .no k) r
/-- The functions that are entered as they stand. -/
def callable (P : Program) (f : FuncId) : Option Func :=
  match P.funcs[f]? with
  | some fn => (match fn.name == "runtime.NumGoroutine", fn.body with | false, some _ => some fn | _, _ => none)
  | none => none
/-- The function of a pointer's own method. -/
def methB (P : Program) (t : TypeId) (name : String) : Option FuncId :=
  match P.info? t, P.underlying t with
  | some i, some (.pointer _) => (match i.methods.find? (·.name == name) with
      | some m => (match m.path.toList, m.func with
          | [], some (f, true) => (match callable P f with | some _ => some f | none => none)
          | _, _ => none)
      | none => none)
  | _, _ => none
noncomputable def evCall (P : Program) (o : Oper) (c : Call) (env : Env) (n : Nat) (H : Heap) : OR :=
  match c.callee with
  | .builtin b => vo (match b with
      | .len => evLen P o c.argTypes.toList c.args.toList env n H
      | .append => evAppend P c.argTypes.toList c.args.toList env n H
      | .copy => evCopy P c.argTypes.toList c.args.toList env n H
      | .delete => evDelete P c.argTypes.toList c.args.toList env n H
      | .clear => evClear P c.argTypes.toList c.args.toList env n H
      | .max => evGround P o env n H
      | .min => evGround P o env n H
      | .cap => evCap P c.argTypes.toList c.args.toList env n H
      | _ => .no 102)
  | .invoke r name => (match opd env r, opds env c.args.toList with
      | some (.ifc t v), some l => (match methB P t name with | some f => .call f (v :: l) | none => .no 103)
      | _, _ => .no 111)
  | .value f => (match opd env f, opds env c.args.toList with
      | some (.fn (.func g) a cap), some l => (match callable P g with | some _ => frcL (a ++ l ++ cap) fun l => .call g l | none => .no 104)
      | some (.yl y), some l => .yld y l
      | _, _ => .no 105)
noncomputable def evDefer (c : Call) (env : Env) : OR :=
  match c.callee with
  | .value f => (match opd env f, opds env c.args.toList with
      | some (.fn (.func g) a cap), some l => .dfr g (a ++ l ++ cap)
      | _, _ => .no 109)
  | _ => .no 110
noncomputable def evOpS (op : Op) : Program → Oper → Env → Nat → Heap → OR :=
  Op.rec (motive := fun _ => Program → Oper → Env → Nat → Heap → OR)
    (fun x => fun _ _ env n H => vo (evMove x env n H))
    (fun x => fun _ _ env n H => vo (evMove x env n H))
    (fun c a b => fun _ _ env n H => vo (evPick c a b env n H))
    (fun t => fun P _ env n H => vo (evAlloc P t env n H))
    (fun t x => fun P _ env n H => vo (evBox P t x env n H))
    (fun t ps => fun P _ env n H => vo (evBuild P t ps.toList env n H))
    (fun t m ps => fun P _ env n H => vo (evBuildSlice P t m ps.toList env n H))
    (fun _ _ _ _ => fun _ _ _ _ _ => .no 106)
    (fun t a => fun P _ env n H => vo (evLoad P t a env n H))
    (fun t a v => fun P _ env n H => vo (evStore P t a v env n H))
    (fun _ => fun _ _ _ _ _ => .no 106)
    (fun _ => fun _ _ _ _ _ => .no 106)
    (fun x => fun _ _ env n H => vo (evNilCheck x env n H))
    (fun op t x y _ => fun P o env n H => vo (evBin P o op t x y env n H))
    (fun _ _ _ => fun P o env n H => vo (evGround P o env n H))
    (fun s d x => fun P o env n H => vo (evConvert P o s d x env n H))
    (fun _ _ => fun _ _ _ _ _ => .no 106)
    (fun t x => fun P _ env n H => vo (evMakeInterface P t x env n H))
    (fun f a c => fun _ _ env n H => vo (evMakeFunc f a.toList c.toList env n H))
    (fun t r => fun P _ env n H => vo (evMakeMap P t r env n H))
    (fun _ _ => fun _ _ _ _ _ => .no 106)
    (fun t l c => fun P _ env n H => vo (evMakeSlice P t l c env n H))
    (fun t x lo hi mx => fun P o env n H => vo (evSlice P o t x lo hi mx env n H))
    (fun s x f => fun P _ env n H => vo (evFieldAddr P s x f env n H))
    (fun t x f => fun P _ env n H => vo (evField P t x f env n H))
    (fun t x ix => fun P _ env n H => vo (evIndexAddr P t x ix env n H))
    (fun t x ix => fun P o env n H => vo (evIndex P o t x ix env n H))
    (fun t m k ok => fun P _ env n H => vo (evLookup P t m k ok env n H))
    (fun t m k x => fun P _ env n H => vo (evMapUpdate P t m k x env n H))
    (fun t m k => fun P _ env n H => vo (evMapEntry P t m k env n H))
    (fun _ m s x => fun _ _ env n H => vo (evEntryStore m s x env n H))
    (fun t x => fun P _ env n H => vo (evMapRange P t x env n H))
    (fun it str => fun _ _ env n H => vo (evMapNext it str env n H))
    (fun it => fun _ _ env n H => vo (evItEntry it env n H))
    (fun _ _ _ _ => fun _ _ _ _ _ => .no 106)
    (fun t ix => fun _ _ env n H => vo (evExtract t ix env n H))
    (fun c => fun P o => evCall P o c)
    (fun _ => fun _ _ _ _ _ => .no 106)
    (fun c _ _ env _ _ => evDefer c env)
    (fun _ => fun _ _ _ _ _ => .no 106)
    (fun _ _ => fun _ _ _ _ _ => .no 106)
    (fun _ _ _ => fun _ _ _ _ _ => .no 106)
    (fun _ _ => fun _ _ _ _ _ => .no 106)
    op
end Go.Sy
namespace Go.Sy
open Go
/-! ### Quick ways through the commonest operations: what they give is what the plain ones give -/
noncomputable def AV.nat (a : AV) : Option (IntKind × Nat) :=
  AV.rec (motive_1 := fun _ => Option (IntKind × Nat)) (motive_2 := fun _ => Unit)
    (fun _ => none) (fun k n => Int.rec (fun m => some (k, m)) (fun _ => none) n) (fun _ => none) none (fun _ _ => none) none (fun _ _ _ _ => none) (fun _ _ _ _ => none) none (fun _ => none)
    (fun _ _ _ _ _ => none) (fun _ => none) none none (fun _ _ _ => none) (fun _ _ => none) (fun _ _ => none) (fun _ => none) (fun _ _ _ => none) (fun _ _ _ => none) () (fun _ _ _ _ => ()) a
noncomputable def AV.ptr (a : AV) : Option (Nat × Nat) :=
  AV.rec (motive_1 := fun _ => Option (Nat × Nat)) (motive_2 := fun _ => Unit)
    (fun _ => none) (fun _ _ => none) (fun _ => none) none (fun x o => some (x, o)) none (fun _ _ _ _ => none) (fun _ _ _ _ => none) none (fun _ => none)
    (fun _ _ _ _ _ => none) (fun _ => none) none none (fun _ _ _ => none) (fun _ _ => none) (fun _ _ => none) (fun _ => none) (fun _ _ _ => none) (fun _ _ _ => none) () (fun _ _ _ _ => ()) a
noncomputable def AV.sli (a : AV) : Option (Nat × Nat × Nat) :=
  AV.rec (motive_1 := fun _ => Option (Nat × Nat × Nat)) (motive_2 := fun _ => Unit)
    (fun _ => none) (fun _ _ => none) (fun _ => none) none (fun _ _ => none) none (fun x o n _ => some (x, o, n)) (fun _ _ _ _ => none) none (fun _ => none)
    (fun _ _ _ _ _ => none) (fun _ => none) none none (fun _ _ _ => none) (fun _ _ => none) (fun _ _ => none) (fun _ => none) (fun _ _ _ => none) (fun _ _ _ => none) () (fun _ _ _ _ => ()) a
noncomputable def AV.boo (a : AV) : Option Bool :=
  AV.rec (motive_1 := fun _ => Option Bool) (motive_2 := fun _ => Unit)
    (fun b => some b) (fun _ _ => none) (fun _ => none) none (fun _ _ => none) none (fun _ _ _ _ => none) (fun _ _ _ _ => none) none (fun _ => none)
    (fun _ _ _ _ _ => none) (fun _ => none) none none (fun _ _ _ => none) (fun _ _ => none) (fun _ _ => none) (fun _ => none) (fun _ _ _ => none) (fun _ _ _ => none) () (fun _ _ _ _ => ()) a
/-- neither a struct nor a tuple -/
noncomputable def AV.one (a : AV) : Bool :=
  AV.rec (motive_1 := fun _ => Bool) (motive_2 := fun _ => Unit)
    (fun _ => true) (fun _ _ => true) (fun _ => true) true (fun _ _ => true) true (fun _ _ _ _ => true) (fun _ _ _ _ => true) true (fun _ => true)
    (fun _ _ _ _ _ => true) (fun _ => true) true true (fun _ _ _ => true) (fun _ _ => false) (fun _ _ => false) (fun _ => true) (fun _ _ _ => true) (fun _ _ _ => true) () (fun _ _ _ _ => ()) a
noncomputable def natO (a : Option AV) : Option (IntKind × Nat) := Option.rec none AV.nat a
noncomputable def ptrO (a : Option AV) : Option (Nat × Nat) := Option.rec none AV.ptr a
noncomputable def sliO (a : Option AV) : Option (Nat × Nat × Nat) := Option.rec none AV.sli a
noncomputable def booO (a : Option AV) : Option Bool := Option.rec none AV.boo a
structure RowD where
  e : TypeId
  z : Nat → Option AV
  m : Nat
  c : T AV
  ex : Bool
  fm : Bool
noncomputable def rowO (a : Option Blk) : Option RowD :=
  Option.rec none (fun b => Blk.rec (fun t z n c ex mk => some ⟨t, z, n, c, ex, mk⟩) (fun _ _ => none) (fun _ _ _ _ _ _ _ _ => none) none (fun _ _ _ _ => none) b) a
theorem natO_some {a : Option AV} {k : IntKind} {n : Nat} (h : natO a = some (k, n)) : a = some (.i k (.ofNat n)) := by
  cases a with
  | none => cases h
  | some a =>
    cases a <;> first | (cases h; done) | skip
    rename_i k' x
    cases x with
    | ofNat m => injection h with h; injection h with h1 h2; subst h1 h2; rfl
    | negSucc m => cases h
theorem ptrO_some {a : Option AV} {p : Nat × Nat} (h : ptrO a = some p) : a = some (.p p.1 p.2) := by
  cases a with
  | none => cases h
  | some a =>
    cases a <;> first | (cases h; done) | skip
    injection h with h; subst h; rfl
theorem sliO_some {a : Option AV} {p : Nat × Nat × Nat} (h : sliO a = some p) : ∃ c, a = some (.sl p.1 p.2.1 p.2.2 c) := by
  cases a with
  | none => cases h
  | some a =>
    cases a <;> first | (cases h; done) | skip
    injection h with h; subst h; exact ⟨_, rfl⟩
theorem booO_some {a : Option AV} {b : Bool} (h : booO a = some b) : a = some (.b b) := by
  cases a with
  | none => cases h
  | some a =>
    cases a <;> first | (cases h; done) | skip
    injection h with h; subst h; rfl
theorem rowO_some {a : Option Blk} {r : RowD} (h : rowO a = some r) : a = some (.row r.e r.z r.m r.c r.ex r.fm) := by
  cases a with
  | none => cases h
  | some a =>
    cases a <;> first | (cases h; done) | skip
    injection h with h; subst h; rfl
noncomputable def binN (op : BinOp) : IntKind → Nat → Nat → Program → Oper → Env → Nat → Heap → OR :=
  match op with
  | .add => fun k a b P o env n H => natV k (Nat.add a b) n H (evGround P o env n H)
  | .sub => fun k a b P o env n H => Bool.rec (evGround P o env n H) (natV k (Nat.sub a b) n H (evGround P o env n H)) (Nat.ble b a)
  | .mul => fun k a b P o env n H => natV k (Nat.mul a b) n H (evGround P o env n H)
  | .eql => fun _ a b _ _ _ n H => boolV (Nat.beq a b) n H
  | .neq => fun _ a b _ _ _ n H => boolV (Bool.not (Nat.beq a b)) n H
  | .lss => fun _ a b _ _ _ n H => boolV (Nat.blt a b) n H
  | .leq => fun _ a b _ _ _ n H => boolV (Nat.ble a b) n H
  | .gtr => fun _ a b _ _ _ n H => boolV (Nat.blt b a) n H
  | .geq => fun _ a b _ _ _ n H => boolV (Nat.ble b a) n H
  | _ => fun _ _ _ P o env n H => evGround P o env n H
noncomputable def evBinF (P : Program) (o : Oper) (op : BinOp) (t : TypeId) (x y : Operand) (env : Env) (n : Nat) (H : Heap) : OR :=
  Option.rec (evBin P o op t x y env n H) (fun p => Option.rec (evBin P o op t x y env n H) (fun q =>
    Bool.rec (evBin P o op t x y env n H) (binN op p.1 p.2 q.2 P o env n H) (ikEq p.1 q.1)) (natO (opd env y))) (natO (opd env x))
theorem evBinF_eq (P : Program) (o : Oper) (op : BinOp) (t : TypeId) (x y : Operand) (env : Env) (n : Nat) (H : Heap) : evBinF P o op t x y env n H = evBin P o op t x y env n H := by
  unfold evBinF
  cases hx : natO (opd env x) with
  | none => rfl
  | some p =>
    obtain ⟨k, a⟩ := p
    cases hy : natO (opd env y) with
    | none => rfl
    | some q =>
      obtain ⟨k', b⟩ := q
      cases hk : ikEq k k' with
      | false => simp only [hk]
      | true =>
        simp only [hk]
        unfold evBin
        simp only [natO_some hx, natO_some hy, hk]
        cases op <;> rfl
noncomputable def fieldB (P : Program) (s : TypeId) (f : Nat) : Option Nat :=
  match P.underlying s with
  | some (.struct fs) => (match nth fs.toList f with
      | some fl => (match sizeB P fl.type with | some (Nat.succ _) => some fl.offset | _ => none)
      | none => none)
  | _ => none
noncomputable def evFieldAddrF (P : Program) (s : TypeId) (x : Operand) (f : Nat) (env : Env) (n : Nat) (H : Heap) : OR :=
  Option.rec (evFieldAddr P s x f env n H) (fun a => Option.rec (evFieldAddr P s x f env n H) (fun q => frc (Nat.add a.2 q) fun o => .val (.p a.1 o) n H) (fieldB P s f)) (ptrO (opd env x))
theorem evFieldAddrF_eq (P : Program) (s : TypeId) (x : Operand) (f : Nat) (env : Env) (n : Nat) (H : Heap) : evFieldAddrF P s x f env n H = evFieldAddr P s x f env n H := by
  unfold evFieldAddrF
  cases hx : ptrO (opd env x) with
  | none => rfl
  | some a =>
    cases hf : fieldB P s f with
    | none => rfl
    | some q =>
      unfold fieldB at hf
      unfold evFieldAddr
      simp only [ptrO_some hx]
      split at hf
      · rename_i fs hu
        split at hf
        · rename_i fl hn
          split at hf
          · rename_i k hs
            injection hf with hf; subst hf
            simp only [hu, hn, hs]
          · cases hf
        · cases hf
      · cases hf
noncomputable def sliceB (P : Program) (t : TypeId) : Option Nat :=
  match P.underlying t with
  | some (.slice e) => sizeB P e
  | _ => none
noncomputable def evIndexAddrF (P : Program) (t : TypeId) (x ix : Operand) (env : Env) (n : Nat) (H : Heap) : OR :=
  Option.rec (evIndexAddr P t x ix env n H) (fun a => Option.rec (evIndexAddr P t x ix env n H) (fun i => Option.rec (evIndexAddr P t x ix env n H) (fun s =>
    Bool.rec (evIndexAddr P t x ix env n H) (frc (Nat.add a.2.1 (Nat.mul i.2 s)) fun o => .val (.p a.1 o) n H) (Nat.blt i.2 a.2.2)) (sliceB P t)) (natO (opd env ix))) (sliO (opd env x))
theorem evIndexAddrF_eq (P : Program) (t : TypeId) (x ix : Operand) (env : Env) (n : Nat) (H : Heap) : evIndexAddrF P t x ix env n H = evIndexAddr P t x ix env n H := by
  unfold evIndexAddrF
  cases hx : sliO (opd env x) with
  | none => rfl
  | some a =>
    cases hi : natO (opd env ix) with
    | none => rfl
    | some i =>
      obtain ⟨k, i⟩ := i
      cases hs : sliceB P t with
      | none => rfl
      | some s =>
        cases hb : Nat.blt i a.2.2 with
        | false => simp only [hb]
        | true =>
          simp only [hb]
          obtain ⟨c, hx⟩ := sliO_some hx
          unfold sliceB at hs
          split at hs
          · rename_i e hu
            unfold evIndexAddr
            simp only [hx, natO_some hi, hu, hs, hb]
          · cases hs
noncomputable def evLoadF (P : Program) (t : TypeId) (x : Operand) (env : Env) (n : Nat) (H : Heap) : OR :=
  Option.rec (evLoad P t x env n H) (fun a => Option.rec (evLoad P t x env n H) (fun r => Option.rec (evLoad P t x env n H) (fun b =>
    Bool.rec (Option.rec (evLoad P t x env n H) (fun v => .val v n H) (cellAt r.z r.m r.c a.2)) (evLoad P t x env n H) b) (isAggB P t)) (rowO (Q8.get H a.1))) (ptrO (opd env x))
theorem evLoadF_eq (P : Program) (t : TypeId) (x : Operand) (env : Env) (n : Nat) (H : Heap) : evLoadF P t x env n H = evLoad P t x env n H := by
  unfold evLoadF
  cases hx : ptrO (opd env x) with
  | none => rfl
  | some a =>
    cases hr : rowO (Q8.get H a.1) with
    | none => simp only [hr]
    | some r =>
      simp only [hr]
      cases hb : isAggB P t with
      | none => rfl
      | some b =>
        cases b with
        | true => rfl
        | false =>
          cases hc : cellAt r.z r.m r.c a.2 with
          | none => rfl
          | some v =>
            unfold evLoad
            simp only [ptrO_some hx, rowO_some hr, hb, hc]
noncomputable def oneB (P : Program) (t : TypeId) : Bool := match sizeB P t with | some 1 => true | _ => false
noncomputable def evStoreF (P : Program) (t : TypeId) (x v : Operand) (env : Env) (n : Nat) (H : Heap) : OR :=
  Option.rec (evStore P t x v env n H) (fun a => Option.rec (evStore P t x v env n H) (fun u => Option.rec (evStore P t x v env n H) (fun r =>
    Bool.rec (evStore P t x v env n H) (Bool.rec (evStore P t x v env n H) (Bool.rec (evStore P t x v env n H)
      (T.set (some u) r.c a.2 fun c => Q8.set (some (.row r.e r.z r.m c r.ex r.fm)) H a.1 fun H => .val undefA n H) (Nat.blt a.2 r.m)) (oneB P t)) u.one) (rowO (Q8.get H a.1))) (opd env v)) (ptrO (opd env x))
theorem frc_same {β : Type} (x : Nat) (c : β) : frc x (fun _ => c) = c := by cases x <;> rfl
theorem evStoreF_eq (P : Program) (t : TypeId) (x v : Operand) (env : Env) (n : Nat) (H : Heap) : evStoreF P t x v env n H = evStore P t x v env n H := by
  unfold evStoreF
  cases hx : ptrO (opd env x) with
  | none => rfl
  | some a =>
    cases hv : opd env v with
    | none => rfl
    | some u =>
      cases hr : rowO (Q8.get H a.1) with
      | none => simp only [hr]
      | some r =>
        simp only [hr]
        cases ho : u.one with
        | false => rfl
        | true =>
          cases hs : oneB P t with
          | false => rfl
          | true =>
            cases hb : Nat.blt a.2 r.m with
            | false => simp only
            | true =>
              simp only
              have hs1 : sizeB P t = some 1 := by
                unfold oneB at hs
                split at hs
                · assumption
                · cases hs
              have hb' : Nat.ble (Nat.add a.2 1) r.m = true := hb
              unfold evStore
              simp only [ptrO_some hx, hv, rowO_some hr, hs1]
              have key : ∀ (u : AV), (T.set (some u) r.c a.2 fun c => Q8.set (some (.row r.e r.z r.m c r.ex r.fm)) H a.1 fun H => OR.val undefA n H) = putCells [u] r.c a.2 (fun c => Q8.set (some (.row r.e r.z r.m c r.ex r.fm)) H a.1 fun H => OR.val undefA n H) := fun u => by
                show _ = T.set (some u) r.c a.2 (fun c => frc (Nat.succ a.2) fun _ => Q8.set (some (.row r.e r.z r.m c r.ex r.fm)) H a.1 fun H => OR.val undefA n H)
                simp only [frc_same]
              rw [key]
              cases u <;> first | (cases ho; done) | (simp only [AV.cells, hb']; rfl)
noncomputable def evNilCheckF (x : Operand) (env : Env) (n : Nat) (H : Heap) : OR :=
  Option.rec (evNilCheck x env n H) (fun a => .val (.p a.1 a.2) n H) (ptrO (opd env x))
theorem evNilCheckF_eq (x : Operand) (env : Env) (n : Nat) (H : Heap) : evNilCheckF x env n H = evNilCheck x env n H := by
  unfold evNilCheckF
  cases hx : ptrO (opd env x) with
  | none => rfl
  | some a => unfold evNilCheck; simp only [ptrO_some hx]
noncomputable def convB (P : Program) (s d : TypeId) : Option IntKind :=
  match P.underlying s, P.underlying d with
  | some (.int _), some (.int k) => some k
  | _, _ => none
noncomputable def evConvertF (P : Program) (o : Oper) (s d : TypeId) (x : Operand) (env : Env) (n : Nat) (H : Heap) : OR :=
  Option.rec (evConvert P o s d x env n H) (fun k => Option.rec (evConvert P o s d x env n H) (fun a => natV k a.2 n H (evGround P o env n H)) (natO (opd env x))) (convB P s d)
theorem evConvertF_eq (P : Program) (o : Oper) (s d : TypeId) (x : Operand) (env : Env) (n : Nat) (H : Heap) : evConvertF P o s d x env n H = evConvert P o s d x env n H := by
  unfold evConvertF
  cases hk : convB P s d with
  | none => rfl
  | some k =>
    cases hx : natO (opd env x) with
    | none => rfl
    | some a =>
      obtain ⟨j, a⟩ := a
      unfold convB at hk
      split at hk
      · rename_i h1 h2
        injection hk with hk; subst hk
        unfold evConvert
        simp only [h1, h2, natO_some hx]
      · cases hk
noncomputable def evPickF (c a b : Operand) (env : Env) (n : Nat) (H : Heap) : OR :=
  Option.rec (evPick c a b env n H) (fun q => Bool.rec (evMove b env n H) (evMove a env n H) q) (booO (opd env c))
theorem evPickF_eq (c a b : Operand) (env : Env) (n : Nat) (H : Heap) : evPickF c a b env n H = evPick c a b env n H := by
  unfold evPickF
  cases hx : booO (opd env c) with
  | none => rfl
  | some q => unfold evPick; simp only [booO_some hx]; cases q <;> rfl
noncomputable def evOp (op : Op) : Program → Oper → Env → Nat → Heap → OR :=
  Op.rec (motive := fun _ => Program → Oper → Env → Nat → Heap → OR)
    (fun x => fun _ _ env n H => vo (evMove x env n H))
    (fun x => fun _ _ env n H => vo (evMove x env n H))
    (fun c a b => fun _ _ env n H => vo (evPickF c a b env n H))
    (fun t => fun P _ env n H => vo (evAlloc P t env n H))
    (fun t x => fun P _ env n H => vo (evBox P t x env n H))
    (fun t ps => fun P _ env n H => vo (evBuild P t ps.toList env n H))
    (fun t m ps => fun P _ env n H => vo (evBuildSlice P t m ps.toList env n H))
    (fun _ _ _ _ => fun _ _ _ _ _ => .no 106)
    (fun t a => fun P _ env n H => vo (evLoadF P t a env n H))
    (fun t a v => fun P _ env n H => vo (evStoreF P t a v env n H))
    (fun _ => fun _ _ _ _ _ => .no 106)
    (fun _ => fun _ _ _ _ _ => .no 106)
    (fun x => fun _ _ env n H => vo (evNilCheckF x env n H))
    (fun op t x y _ => fun P o env n H => vo (evBinF P o op t x y env n H))
    (fun _ _ _ => fun P o env n H => vo (evGround P o env n H))
    (fun s d x => fun P o env n H => vo (evConvertF P o s d x env n H))
    (fun _ _ => fun _ _ _ _ _ => .no 106)
    (fun t x => fun P _ env n H => vo (evMakeInterface P t x env n H))
    (fun f a c => fun _ _ env n H => vo (evMakeFunc f a.toList c.toList env n H))
    (fun t r => fun P _ env n H => vo (evMakeMap P t r env n H))
    (fun _ _ => fun _ _ _ _ _ => .no 106)
    (fun t l c => fun P _ env n H => vo (evMakeSlice P t l c env n H))
    (fun t x lo hi mx => fun P o env n H => vo (evSlice P o t x lo hi mx env n H))
    (fun s x f => fun P _ env n H => vo (evFieldAddrF P s x f env n H))
    (fun t x f => fun P _ env n H => vo (evField P t x f env n H))
    (fun t x ix => fun P _ env n H => vo (evIndexAddrF P t x ix env n H))
    (fun t x ix => fun P o env n H => vo (evIndex P o t x ix env n H))
    (fun t m k ok => fun P _ env n H => vo (evLookup P t m k ok env n H))
    (fun t m k x => fun P _ env n H => vo (evMapUpdate P t m k x env n H))
    (fun t m k => fun P _ env n H => vo (evMapEntry P t m k env n H))
    (fun _ m s x => fun _ _ env n H => vo (evEntryStore m s x env n H))
    (fun t x => fun P _ env n H => vo (evMapRange P t x env n H))
    (fun it str => fun _ _ env n H => vo (evMapNext it str env n H))
    (fun it => fun _ _ env n H => vo (evItEntry it env n H))
    (fun _ _ _ _ => fun _ _ _ _ _ => .no 106)
    (fun t ix => fun _ _ env n H => vo (evExtract t ix env n H))
    (fun c => fun P o => evCall P o c)
    (fun _ => fun _ _ _ _ _ => .no 106)
    (fun c _ _ env _ _ => evDefer c env)
    (fun _ => fun _ _ _ _ _ => .no 106)
    (fun _ _ => fun _ _ _ _ _ => .no 106)
    (fun _ _ _ => fun _ _ _ _ _ => .no 106)
    (fun _ _ => fun _ _ _ _ _ => .no 106)
    op
theorem evOp_eq (op : Op) (P : Program) (o : Oper) (env : Env) (n : Nat) (H : Heap) : evOp op P o env n H = evOpS op P o env n H := by
  cases op <;> first | rfl | skip
  · exact congrArg vo (evPickF_eq ..)
  · exact congrArg vo (evLoadF_eq ..)
  · exact congrArg vo (evStoreF_eq ..)
  · exact congrArg vo (evNilCheckF_eq ..)
  · exact congrArg vo (evBinF_eq ..)
  · exact congrArg vo (evConvertF_eq ..)
  · exact congrArg vo (evFieldAddrF_eq ..)
  · exact congrArg vo (evIndexAddrF_eq ..)
end Go.Sy

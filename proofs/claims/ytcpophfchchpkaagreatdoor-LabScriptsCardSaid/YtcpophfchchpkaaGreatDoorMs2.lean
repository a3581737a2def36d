/- SymB, SymC, SymD -/
import Derived.Test.YtcpophfchchpkaaGreatDoorMs1
import Derived.Laws.World
import Derived.Laws.Cells
import Derived.Laws.Append
import Derived.Laws.IdiomCopy
import Derived.MapKept
namespace Go.Sy
open Go
/-! ### Equality of abstract values (where it says yes) -/
noncomputable def eqInt (a b : Int) : Bool :=
  match a, b with
  | .ofNat a, .ofNat b => Nat.beq a b
  | .negSucc a, .negSucc b => Nat.beq a b
  | _, _ => false
noncomputable def eqBytes (l m : List UInt8) : Bool :=
  List.rec (motive := fun _ => List UInt8 → Bool) (fun m => match m with | [] => true | _ => false) (fun a _ ih m => match m with | [] => false | b :: r => (match Nat.beq a.toNat b.toNat with | true => ih r | false => false)) l m
noncomputable def eq1 (a b : AV) : Bool :=
  match a, b with
  | .b x, .b y => x == y
  | .i j x, .i k y => (match ikEq j k with | true => eqInt x y | false => false)
  | .s l, .s m => eqBytes l m
  | .p0, .p0 => true
  | .p x o, .p y q => (match Nat.beq x y with | true => Nat.beq o q | false => false)
  | .sl0, .sl0 => true
  | .se x o d u, .se y q e v => (match Nat.beq x y, Nat.beq o q, Nat.beq d e with | true, true, true => Nat.beq u v | _, _, _ => false)
  | .sl x o n c, .sl y q m d => (match Nat.beq x y, Nat.beq o q, Nat.beq n m with
      | true, true, true => (match c, d with | .k c, .k d => Nat.beq c d | .u c, .u d => Nat.beq c d | _, _ => false)
      | _, _, _ => false)
  | .m0, .m0 => true
  | .m x, .m y => Nat.beq x y
  | .yl x, .yl y => Nat.beq x y
  | .fn0, .fn0 => true
  | .fn (.func f) [] [], .fn (.func g) [] [] => Nat.beq f g
  | .if0, .if0 => true
  | _, _ => false
noncomputable def eq1s (l m : List AV) : Bool :=
  List.rec (motive := fun _ => List AV → Bool) (fun m => match m with | [] => true | _ => false) (fun a _ ih m => match m with | [] => false | b :: r => (match eq1 a b with | true => ih r | false => false)) l m
noncomputable def eq2 (a b : AV) : Bool :=
  match a, b with
  | .agg l, .agg m => eq1s l m
  | _, _ => eq1 a b
noncomputable def eq2s (l m : List AV) : Bool :=
  List.rec (motive := fun _ => List AV → Bool) (fun m => match m with | [] => true | _ => false) (fun a _ ih m => match m with | [] => false | b :: r => (match eq2 a b with | true => ih r | false => false)) l m
noncomputable def eqV (a b : AV) : Bool :=
  match a, b with
  | .agg l, .agg m => eq1s l m
  | .tup l, .tup m => eq2s l m
  | .fn (.func f) a c, .fn (.func g) b d => (match Nat.beq f g, eq1s a b with | true, true => eq1s c d | _, _ => false)
  | _, _ => eq1 a b
/-! ### What is known of a region that draws its order, without running it -/
/-- chain: calls and whatever changes memory · new: allocations · read: whatever looks at memory · pure -/
inductive K | chain | new | read | pure
def kindOf (P : Program) : Op → K
  | .move _ | .assign _ | .pick .. | .build .. | .fieldAddr .. | .field .. | .indexAddr .. | .index .. | .slice .. | .unOp .. | .nilCheck _ | .makeInterface .. | .makeFunc .. | .extract .. => .pure
  | .binOp op t .. => (match op with
      | .eql | .neq => (match P.underlying t with | some (.pointer _) => .read | some _ => .pure | none => .chain)
      | _ => .pure)
  | .alloc _ | .box .. | .buildSlice .. | .makeMap .. | .makeSlice .. => .new
  | .load .. | .lookup .. => .read
  | .convert s d _ => (match P.underlying s, P.underlying d with
      | some (.int _), _ => .pure
      | some .string, some .string => .pure
      | some .string, some (.slice _) => .new
      | some (.slice _), some .string => .read
      | some (.slice _), some (.slice _) => .read
      | _, _ => .chain)
  | .call { callee := .builtin b, argTypes, .. } => (match b with
      | .max | .min | .cap => .pure
      | .len => (match argTypes.toList with | t :: _ => (match P.underlying t with | some (.map _ _) => .read | some _ => .pure | none => .chain) | [] => .chain)
      | _ => .chain)
  | _ => .chain
inductive RI | chain | new | read (lo hi : Nat) | pure
def K.big : K → Bool
  | .chain => true | .new => true | _ => false
/-- the masks of what comes before -/
noncomputable def masks (ops : List Oper) : List Nat → List Nat :=
  List.rec (motive := fun _ => List Nat → List Nat) (fun acc => acc)
    (fun o _ ih acc => ih (acc ++ [o.after.toList.foldl (fun s e => if Region.binds .any e then s ||| 2 ^ e.on ||| (nth acc e.on).getD 0 else s) 0])) ops
noncomputable def edgesOk (ops : List Oper) : Nat → Bool :=
  List.rec (motive := fun _ => Nat → Bool) (fun _ => true) (fun o _ ih i => o.after.toList.all (fun e => !Region.binds .any e || Nat.blt e.on i) && ih (Nat.succ i)) ops
def tmpsOf (l : List Operand) : List Tmp := l.filterMap fun | .tmp t => some t | _ => none
noncomputable def names (all : List Oper) (o : Oper) : List Tmp :=
  o.dst.toList ++ tmpsOf o.op.operands.toList ++ (match o.guard with | some (g, _) => (match nth all g with | some x => x.dst.toList | none => []) | none => [])
noncomputable def writers (ops : List Oper) : Nat → T (List Nat) → T (List Nat) :=
  List.rec (motive := fun _ => Nat → T (List Nat) → T (List Nat)) (fun _ t => t)
    (fun o _ ih i t => match o.dst with | none => ih (Nat.succ i) t | some d => T.set (some (i :: (t.get d).getD [])) t d fun t => ih (Nat.succ i) t) ops
def cmpB (ms : List Nat) (i j : Nat) : Bool := Nat.beq i j || (Nat.blt i j && ((ms[j]?).getD 0).testBit i) || (Nat.blt j i && ((ms[i]?).getD 0).testBit j)
noncomputable def tmpsOk (all : List Oper) (ms : List Nat) (w : T (List Nat)) (ops : List Oper) : Nat → Bool :=
  List.rec (motive := fun _ => Nat → Bool) (fun _ => true)
    (fun o _ ih j => (names all o).all (fun t => ((w.get t).getD []).all fun i => cmpB ms i j) && ih (Nat.succ j)) ops
/-- are all big operations below 'to' among those of the mask? -/
noncomputable def bigIn (ks : List K) (m : Nat) : Nat → Nat → Bool :=
  List.rec (motive := fun _ => Nat → Nat → Bool) (fun _ _ => true)
    (fun k _ ih i to => match Nat.blt i to with | true => (!k.big || m.testBit i) && ih (Nat.succ i) to | false => true) ks
/-- one above the last big operation of the mask -/
noncomputable def loOf (ks : List K) (m : Nat) : Nat → Nat → Nat :=
  List.rec (motive := fun _ => Nat → Nat → Nat) (fun _ lo => lo) (fun k _ ih i lo => ih (Nat.succ i) (match k.big && m.testBit i with | true => Nat.succ i | false => lo)) ks
/-- the first big operation that waits for j; else the region's size -/
noncomputable def hiOf (ks : List K) (j : Nat) : List Nat → Nat → Nat :=
  List.rec (motive := fun _ => List Nat → Nat → Nat) (fun _ i => i)
    (fun k _ ih ms i => match ms with | [] => i | m :: r => (match k.big && m.testBit j with | true => i | false => ih r (Nat.succ i))) ks
noncomputable def infos (ks : List K) (ms : List Nat) (todo : List (K × Nat)) : Nat → Option (List RI) :=
  List.rec (motive := fun _ => Nat → Option (List RI)) (fun _ => some [])
    (fun x _ ih j => match x.1 with
      | .chain => (match bigIn ks x.2 0 j with | true => (match ih (Nat.succ j) with | some l => some (.chain :: l) | none => none) | false => none)
      | .new => (match ih (Nat.succ j) with | some l => some (.new :: l) | none => none)
      | .pure => (match ih (Nat.succ j) with | some l => some (.pure :: l) | none => none)
      | .read => (match bigIn ks x.2 0 (loOf ks x.2 0 0) with
          | true => (match ih (Nat.succ j) with | some l => some (.read (loOf ks x.2 0 0) (hiOf ks j ms 0) :: l) | none => none)
          | false => none)) todo
noncomputable def regInfo (P : Program) (ops : List Oper) : Option (List RI) :=
  match edgesOk ops 0 && Region.noSelect ⟨ops⟩ && tmpsOk ops (masks ops []) (writers ops 0 .e) ops 0 with
  | true => infos (ops.map fun o => kindOf P o.op) (masks ops []) ((ops.map fun o => kindOf P o.op).zip (masks ops [])) 0
  | false => none
/-! ### Code -/
inductive Ext | nrm | ex (id : Nat) | rt | go (l : Nat)
/-- what waits for the function's end: a mark of a range over a function, a deferred call -/
inductive Df | mark (x : Nat) | call (f : FuncId) (args : List AV)
inductive CR | ok (e : Ext) (env : Env) (ms : List Df) (n : Nat) (H : Heap) | er (l : List Nat)
inductive VR | ok (v : AV) (n : Nat) (H : Heap) | er (l : List Nat)
inductive SR | ok (env : Env) (n : Nat) (H : Heap) | er (l : List Nat)
/-- code, the loop whose round it is (if any), the number of temporaries, .. -/
abbrev EC := Code → Option Nat → Nat → Env → List Df → Nat → Heap → CR
abbrev EF := FuncId → List AV → Nat → Heap → VR
noncomputable def bindP (N : Nat) (ps : List Tmp) : List AV → Env → (Env → VR) → VR :=
  List.rec (motive := fun _ => List AV → Env → (Env → VR) → VR) (fun as env k => match as with | [] => k env | _ => .er [200])
    (fun t _ ih as env k => match as with
      | [] => .er [201]
      | a :: r => (match Nat.blt t N with | true => env.put t a fun env => ih r env k | false => .er [202])) ps
def jumpOf : Ext → Option Code
  | .nrm => none
  | .ex id => some (.exit id)
  | .rt => some .ret
  | .go l => some (.goto l)
noncomputable def evRound (ec : EC) (y : Nat) (args : List AV) (n : Nat) (H : Heap) : VR :=
  match Q8.get H y with
  | some (.loop _ _ ps asg body env N _) => bindP N ps args env fun env =>
    (match ec asg (some y) N env [] n H with
    | .ok .nrm env [] n H => (match Q8.get H y with
        | some (.loop .ready pe ps a b e N' d) => Q8.set (some (.loop .busy pe ps a b e N' d)) H y fun H =>
          (match ec body (some y) N env [] n H with
          | .ok x _ [] n H => (match Q8.get H y with
              | some (.loop _ _ ps a b e N d) => Q8.set (some (.loop (match x with | .nrm => .ready | _ => .done) (jumpOf x) ps a b e N d)) H y fun H =>
                (match x with | .nrm => .ok (.b true) n H | _ => .ok (.b false) n H)
              | _ => .er [203])
          | .ok _ _ _ _ _ => .er [204]
          | .er l => .er l)
        | _ => .er [205])
    | .ok _ _ _ _ _ => .er [206]
    | .er l => .er l)
  | _ => .er [207]
noncomputable def putK {β : Type} (dst : Option Tmp) (N : Nat) (v : AV) (env : Env) (er : List Nat → β) (k : Env → β) : β :=
  Option.rec (k env) (fun d => Bool.rec (er [208]) (env.put d v k) (Nat.blt d N)) dst
noncomputable def putD (dst : Option Tmp) (N : Nat) (v : AV) (env : Env) (n : Nat) (H : Heap) : SR := putK dst N v env .er fun env => .ok env n H
/-- Is an operation with a guard wanted? -/
noncomputable def wantedG (all : List Oper) (g : Nat × Bool) (env : Env) : Option Bool :=
  match nth all g.1 with
  | some x => (match x.dst with
      | some t => (match env.get t with
          | some (.b b) => some (b == g.2)
          | some (.tup _) => some false
          | _ => none)
      | none => some false)
  | none => some false
noncomputable def wantedA (all : List Oper) (g : Option (Nat × Bool)) (env : Env) : Option Bool :=
  Option.rec (some true) (fun g => wantedG all g env) g
noncomputable def evWanted (P : Program) (ec : EC) (ef : EF) (N : Nat) (o : Oper) (env : Env) (n : Nat) (H : Heap) : SR :=
  match evOp o.op P o env n H with
  | .val v n H => putD o.dst N v env n H
  | .call g args => (match ef g args n H with | .ok v n H => putD o.dst N v env n H | .er l => .er l)
  | .yld y args => (match evRound ec y args n H with | .ok v n H => putD o.dst N v env n H | .er l => .er l)
  | .dfr _ _ => .er [235]
  | .no k => .er [k]
inductive DR | ok (env : Env) (ms : List Df) (n : Nat) (H : Heap) | er (l : List Nat)
noncomputable def evGo (P : Program) (ec : EC) (ef : EF) (rd : Option Nat) (N : Nat) (o : Oper) (ih : Env → List Df → Nat → Heap → DR) (env : Env) (ms : List Df) (n : Nat) (H : Heap) : DR :=
  OR.rec
    (fun v n H => putK o.dst N v env .er fun env => ih env ms n H)
    (fun g args => VR.rec (fun v n H => putK o.dst N v env .er fun env => ih env ms n H) (fun l => .er l) (ef g args n H))
    (fun y args => VR.rec (fun v n H => putK o.dst N v env .er fun env => ih env ms n H) (fun l => .er l) (evRound ec y args n H))
    (fun f args => Option.rec (putK o.dst N undefA env .er fun env => ih env (.call f args :: ms) n H) (fun _ => .er [233]) rd)
    (fun k => .er [k])
    (evOp o.op P o env n H)
noncomputable def evSkip (N : Nat) (o : Oper) (ih : Env → List Df → Nat → Heap → DR) (env : Env) (ms : List Df) (n : Nat) (H : Heap) : DR :=
  putK o.dst N undefA env .er fun env => ih env ms n H
noncomputable def evOps (P : Program) (ec : EC) (ef : EF) (rd : Option Nat) (N : Nat) (all : List Oper) (ops : List Oper) : Env → List Df → Nat → Heap → DR :=
  List.rec (motive := fun _ => Env → List Df → Nat → Heap → DR) (fun env ms n H => .ok env ms n H)
    (fun o _ ih env ms n H => Option.rec (evGo P ec ef rd N o ih env ms n H)
      (fun g => Option.rec (.er [209]) (fun w => Bool.rec (evSkip N o ih env ms n H) (evGo P ec ef rd N o ih env ms n H) w) (wantedG all g env)) o.guard) ops
/-- A reading operation that was carried out: with these temporaries it gave v; at whatever snapshot of its window it must. -/
structure Rd where
  o : Oper
  env : Env
  v : AV
  lo : Nat
  hi : Nat
noncomputable def snapsOk (P : Program) (r : Rd) (snaps : List (Nat × Heap)) : Bool :=
  List.rec true (fun s _ ih => match Nat.ble r.lo s.1 && Nat.ble s.1 r.hi with
    | true => (match evOp r.o.op P r.o r.env 0 s.2 with
        | .val v _ _ => (match eqV r.v v with | true => ih | false => false)
        | _ => false)
    | false => ih) snaps
noncomputable def rdsOk (P : Program) (snaps : List (Nat × Heap)) (l : List Rd) : Bool :=
  List.rec true (fun r _ ih => match snapsOk P r snaps with | true => ih | false => false) l
noncomputable def evDrawn (P : Program) (ec : EC) (ef : EF) (N : Nat) (all : List Oper) (ops : List Oper) : List RI → Nat → List (Nat × Heap) → List Rd → Env → Nat → Heap → SR :=
  List.rec (motive := fun _ => List RI → Nat → List (Nat × Heap) → List Rd → Env → Nat → Heap → SR)
    (fun _ _ snaps rds env n H => match rdsOk P snaps rds with | true => .ok env n H | false => .er [210])
    (fun o _ ih is i snaps rds env n H => match is with
      | [] => .er [211]
      | x :: is => (match wantedA all o.guard env with
        | some false => (match putD o.dst N undefA env n H with
            | .ok env n H => (match x with
                | .pure => ih is (Nat.succ i) snaps rds env n H
                | .read _ _ => ih is (Nat.succ i) snaps rds env n H
                | _ => ih is (Nat.succ i) ((Nat.succ i, H) :: snaps) rds env n H)
            | .er l => .er l)
        | some true => (match x with
          | .pure => (match evOp o.op P o env n H with
              | .val v n H => (match putD o.dst N v env n H with | .ok env n H => ih is (Nat.succ i) snaps rds env n H | .er l => .er l)
              | .no k => .er [k, 212]
              | _ => .er [212])
          | .read lo hi => (match evOp o.op P o env n H with
              | .val v n H => (match putD o.dst N v env n H with | .ok env' n H => ih is (Nat.succ i) snaps (⟨o, env, v, lo, hi⟩ :: rds) env' n H | .er l => .er l)
              | .no k => .er [k, 213]
              | _ => .er [213])
          | .new => (match evOp o.op P o env n H with
              | .val v n H => (match putD o.dst N v env n H with | .ok env n H => ih is (Nat.succ i) ((Nat.succ i, H) :: snaps) rds env n H | .er l => .er l)
              | .no k => .er [k, 214]
              | _ => .er [214])
          | .chain => (match evWanted P ec ef N o env n H with
              | .ok env n H => ih is (Nat.succ i) ((Nat.succ i, H) :: snaps) rds env n H
              | .er l => .er l))
        | none => .er [215])) ops
noncomputable def evRegion (P : Program) (ec : EC) (ef : EF) (rd : Option Nat) (N : Nat) (id : Nat) (ops : List Oper) (draw : Bool) (env : Env) (ms : List Df) (n : Nat) (H : Heap) : CR :=
  match draw with
  | false => (match evOps P ec ef rd N ops ops env.fresh ms n H with | .ok env ms n H => .ok .nrm env ms n H | .er l => .er (id :: l))
  | true => (match regInfo P ops with
      | some is => (match evDrawn P ec ef N ops ops is 0 [(0, H)] [] env.fresh n H with | .ok env n H => .ok .nrm env ms n H | .er l => .er (id :: l))
      | none => .er [id, 216])
noncomputable def evRange (P : Program) (ec : EC) (ef : EF) (f : Operand) (ps : List Tmp) (asg body : Code) (rd : Option Nat) (N : Nat) (env : Env) (ms : List Df) (n : Nat) (H : Heap) : CR :=
  let go : Nat → List Df → Nat → Heap → CR := fun d ms n H =>
    Q8.set (some (.loop .ready none ps asg body env N d)) H n fun H => frc (Nat.succ n) fun n' =>
    (match opd env f with
    | some (.fn (.func g) a c) => frcL (a ++ (.yl n) :: c) fun args =>
      (match callable P g with
      | none => .er [237]
      | some _ => (match ef g args n' H with
        | .ok _ m H => (match Q8.get H n with
            | some (.loop .busy _ _ _ _ _ _ _) => .er [217]
            | some (.loop _ pe _ _ _ _ _ _) => Q8.set none H n fun H => (match pe with
                | none => .ok .nrm env ms m H
                | some c => ec c rd N env ms m H)
            | _ => .er [218])
        | .er l => .er (g :: l)))
    | _ => .er [219])
  match rd with
  | none => Q8.set (some .defd) H n fun H => frc (Nat.succ n) fun n' => go n (.mark n :: ms) n' H
  | some y => (match Q8.get H y with
      | some (.loop _ _ _ _ _ _ _ d) => go d ms n H
      | _ => .er [220])
noncomputable def evSeq (ec : EC) (a b : Code) (rd : Option Nat) (N : Nat) (env : Env) (ms : List Df) (n : Nat) (H : Heap) : CR :=
  CR.rec (fun e env ms n H => Ext.rec (ec b rd N env ms n H) (fun id => .ok (.ex id) env ms n H) (.ok .rt env ms n H) (fun l => .ok (.go l) env ms n H) e) (fun l => .er l) (ec a rd N env ms n H)
noncomputable def evCond (ec : EC) (c : Operand) (a b : Code) (rd : Option Nat) (N : Nat) (env : Env) (ms : List Df) (n : Nat) (H : Heap) : CR :=
  Option.rec (.er [221]) (fun x => Bool.rec (ec b rd N env ms n H) (ec a rd N env ms n H) x) (booO (opd env c))
noncomputable def evBlock (ec : EC) (id : Nat) (a : Code) (rd : Option Nat) (N : Nat) (env : Env) (ms : List Df) (n : Nat) (H : Heap) : CR :=
  match ec a rd N env ms n H with
  | .ok e env ms n H => (match e with | .nrm => .ok .nrm env ms n H | .ex j => Bool.rec (.ok (.ex j) env ms n H) (.ok .nrm env ms n H) (Nat.beq j id) | .rt => .ok .rt env ms n H | .go l => .ok (.go l) env ms n H)
  | .er l => .er l
noncomputable def evLoop (ec : EC) (a : Code) (rd : Option Nat) (N : Nat) (env : Env) (ms : List Df) (n : Nat) (H : Heap) : CR :=
  match ec a rd N env ms n H with
  | .ok e env ms n H => (match e with | .nrm => ec (.loop a) rd N env ms n H | .ex id => .ok (.ex id) env ms n H | .rt => .ok .rt env ms n H | .go l => .ok (.go l) env ms n H)
  | .er l => .er l
noncomputable def evScope (ec : EC) (b : Code) (fuel : Nat) : Code → Option Nat → Nat → Env → List Df → Nat → Heap → CR :=
  Nat.rec (motive := fun _ => Code → Option Nat → Nat → Env → List Df → Nat → Heap → CR) (fun _ _ _ _ _ _ _ => .er [222])
    (fun _ ih c rd N env ms n H => match ec c rd N env ms n H with
      | .ok e env ms n H => (match e with
          | .go l => (match findLabel b l with | some c => ih c rd N env ms n H | none => .ok (.go l) env ms n H)
          | .nrm => .ok .nrm env ms n H
          | .ex id => .ok (.ex id) env ms n H
          | .rt => .ok .rt env ms n H)
      | .er l => .er l) fuel
noncomputable def evExt (e : Ext) (_rd : Option Nat) (_N : Nat) (env : Env) (ms : List Df) (n : Nat) (H : Heap) : CR := .ok e env ms n H
noncomputable def evFail (k : Nat) (_rd : Option Nat) (_N : Nat) (_env : Env) (_ms : List Df) (_n : Nat) (_H : Heap) : CR := .er [k]
noncomputable def evReg (P : Program) (ec : EC) (ef : EF) (id : Nat) (ops : List Oper) (draw : Bool) (rd : Option Nat) (N : Nat) (env : Env) (ms : List Df) (n : Nat) (H : Heap) : CR := evRegion P ec ef rd N id ops draw env ms n H
noncomputable def stepC (c : Code) : Program → EC → EF → Option Nat → Nat → Env → List Df → Nat → Heap → CR :=
  match c with
  | .skip => fun _ _ _ => evExt .nrm
  | .label _ => fun _ _ _ => evExt .nrm
  | .region id ops draw => fun P ec ef => evReg P ec ef id ops.toList draw
  | .seq a b => fun _ ec _ => evSeq ec a b
  | .cond c a b => fun _ ec _ => evCond ec c a b
  | .block id a => fun _ ec _ => evBlock ec id a
  | .loop a => fun _ ec _ => evLoop ec a
  | .rangeFunc f ps asg body => fun P ec ef => evRange P ec ef f ps.toList asg body
  | .exit id => fun _ _ _ => evExt (.ex id)
  | .ret => fun _ _ _ => evExt .rt
  | .scope b => fun _ ec _ => evScope ec b 1000000 b
  | .goto l => fun _ _ _ => evExt (.go l)
  | .refuse _ => fun _ _ _ => evFail 224
/-- The results of a function. -/
noncomputable def resOf (P : Program) (env : Env) (n : Nat) (H : Heap) (rs : List ResultVar) : Option (List AV) :=
  List.rec (some []) (fun r _ ih => match (match r with
      | .tmp t => env.get t
      | .cell t ty => (match env.get t with | some (.p _ _) => (match evLoad P ty (.tmp t) env n H with | .val v _ _ => some v | _ => none) | _ => none)) with
    | some v => (match ih with | some l => some (v :: l) | none => none)
    | none => none) rs
noncomputable def args0 (l : List AV) : Nat → Env → (Env → VR) → VR :=
  List.rec (motive := fun _ => Nat → Env → (Env → VR) → VR) (fun _ e k => k e) (fun a _ ih i e k => e.put i a fun e => ih (Nat.succ i) e k) l
/-- Which temporaries does a region read that it has not written itself? -/
noncomputable def readsOf (_all : List Oper) (ops : List Oper) : Nat → Nat → Nat :=
  List.rec (motive := fun _ => Nat → Nat → Nat) (fun _ r => r)
    (fun o _ ih w r => ih (match o.dst with | some d => Nat.lor w (Nat.shiftLeft 1 d) | none => w)
      ((tmpsOf o.op.operands.toList).foldl (fun r t => match Nat.beq (Nat.land (Nat.shiftRight w t) 1) 1 with | true => r | false => Nat.lor r (Nat.shiftLeft 1 t)) r)) ops
noncomputable def handed : Code → Nat → Nat
  | .region _ ops _, r => readsOf ops.toList ops.toList 0 r
  | .seq a b, r => handed b (handed a r)
  | .cond _ a b, r => handed b (handed a r)
  | .block _ a, r => handed a r
  | .loop a, r => handed a r
  | .rangeFunc _ _ a b, r => handed b (handed a r)
  | .scope a, r => handed a r
  | _, r => r
noncomputable def vars (fn : Func) : Nat :=
  (fn.results.toList).foldl (fun r v => match v with | .tmp t => Nat.lor r (Nat.shiftLeft 1 t) | .cell t _ => Nat.lor r (Nat.shiftLeft 1 t)) (match fn.body with | some c => handed c 0 | none => 0)
/-- A function's body, from its arguments. -/
noncomputable def bodyOf (P : Program) (ec : EC) (f : FuncId) (args : List AV) (n : Nat) (H : Heap) (k : Func → Env → List Df → Nat → Heap → VR) : VR :=
  match callable P f with
  | none => .er [f, 226]
  | some fn => (match fn.body with
    | none => .er [227]
    | some c => (match Nat.ble (len args) fn.ntmps with
      | false => .er [228]
      | true => args0 args 0 (.mk (vars fn) [] [] Q4.e) fun env => (match ec c none fn.ntmps env [] n H with
        | .er l => .er (f :: l)
        | .ok e env ms n H => (match e with
          | .ex _ => .er [229]
          | .go _ => .er [229]
          | _ => k fn env ms n H))))
noncomputable def resV (P : Program) (f : FuncId) (fn : Func) (env : Env) (n : Nat) (H : Heap) : VR :=
  match resOf P env n H fn.results.toList with
  | none => .er [f, 230]
  | some l => (match l with | [v] => .ok v n H | l => .ok (.tup l) n H)
noncomputable def leaveD (P : Program) (ec : EC) (ms : List Df) : Nat → Heap → (Nat → Heap → VR) → VR :=
  List.rec (motive := fun _ => Nat → Heap → (Nat → Heap → VR) → VR) (fun n H k => k n H)
    (fun d _ ih n H k => match d with
      | .mark x => (match Q8.get H x with | some .defd => Q8.set none H x fun H => ih n H k | _ => .er [225])
      | .call f args => (match bodyOf P ec f args n H (fun fn env ms n H => match ms with | [] => resV P f fn env n H | _ => .er [234]) with
          | .ok _ n H => ih n H k
          | .er l => .er l)) ms
/-- What is known of some functions already. -/
abbrev Orc := FuncId → Option (List AV → Nat → Heap → VR)
noncomputable def stepF (P : Program) (O : Orc) (ec : EC) (f : FuncId) (args : List AV) (n : Nat) (H : Heap) : VR :=
  match O f with
  | some g => g args n H
  | none => bodyOf P ec f args n H fun fn env ms n H => leaveD P ec ms n H fun n H => resV P f fn env n H
structure EV where
  ec : EC
  ef : EF
noncomputable def ev (P : Program) (O : Orc) (fuel : Nat) : EV :=
  Nat.rec ⟨fun _ _ _ _ _ _ _ => .er [231], fun _ _ _ _ => .er [232]⟩
    (fun _ ih => ⟨fun c => stepC c P ih.ec ih.ef, stepF P O ih.ec⟩) fuel
end Go.Sy
namespace Go.Sy
open Go
/-! ### Forcing changes nothing -/
theorem frc_eq {β : Type} (x : Nat) (c : Nat → β) : frc x c = c x := by cases x <;> rfl
theorem frcI_eq {β : Type} (x : Int) (c : Int → β) : frcI x c = c x := by cases x <;> simp only [frcI, frc_eq]
theorem frcL_eq {α β : Type} (l : List α) (c : List α → β) : frcL l c = c l := by
  induction l generalizing c with
  | nil => rfl
  | cons a r ih => exact (ih fun r => c (a :: r))
theorem len_eq {α : Type} (l : List α) : len l = l.length := by
  induction l with
  | nil => rfl
  | cons a r ih => show frc (len r) Nat.succ = _; rw [frc_eq, ih]; rfl
theorem nth_eq {α : Type} (l : List α) (i : Nat) : nth l i = l[i]? := by
  induction l generalizing i with
  | nil => simp [nth]
  | cons a r ih =>
    cases i with
    | zero => rfl
    | succ i => exact (ih i)
/-! ### Maps -/
noncomputable def T.upd {α : Type} (t : T α) (i : Nat) (x : Option α) : T α := T.set x t i id
theorem T.set_e {α β : Type} (x : Option α) (i : Nat) (k : T α → β) : T.set x .e i k = T.setE x (Nat.succ i) i k := rfl
theorem T.setE_k {α : Type} (x : Option α) (f : Nat) : ∀ {β : Type} (i : Nat) (k : T α → β), T.setE x f i k = k (T.setE x f i id) := by
  induction f with
  | zero => intro β i k; rfl
  | succ f ih =>
    intro β i k
    show Bool.rec (Bool.rec (T.setE x f (Nat.sub (Nat.div i 2) 1) fun l => k (.n none .e l)) (T.setE x f (Nat.div i 2) fun l => k (.n none l .e)) (Nat.beq (Nat.mod i 2) 1)) (k (.n x .e .e)) (Nat.beq i 0) =
      k (Bool.rec (Bool.rec (T.setE x f (Nat.sub (Nat.div i 2) 1) fun l => id (.n none .e l)) (T.setE x f (Nat.div i 2) fun l => id (.n none l .e)) (Nat.beq (Nat.mod i 2) 1)) (id (.n x .e .e)) (Nat.beq i 0))
    cases Nat.beq i 0 with
    | true => rfl
    | false =>
      cases Nat.beq (Nat.mod i 2) 1 with
      | true => show T.setE x f (Nat.div i 2) _ = k (T.setE x f (Nat.div i 2) _); rw [ih _ (fun l => k (T.n none l .e)), ih _ (fun l => id (T.n none l .e))]; rfl
      | false => show T.setE x f _ _ = k (T.setE x f _ _); rw [ih _ (fun l => k (T.n none .e l)), ih _ (fun l => id (T.n none .e l))]; rfl
theorem T.set_k {α : Type} (x : Option α) (t : T α) : ∀ {β : Type} (i : Nat) (k : T α → β), T.set x t i k = k (T.upd t i x) := by
  induction t with
  | e => intro β i k; unfold T.upd; rw [T.set_e, T.set_e]; exact T.setE_k x _ i k
  | n v l r ihl ihr =>
    intro β i k
    show Bool.rec (Bool.rec (T.set x r (Nat.sub (Nat.div i 2) 1) fun r => k (.n v l r)) (T.set x l (Nat.div i 2) fun l => k (.n v l r)) (Nat.beq (Nat.mod i 2) 1)) (k (.n x l r)) (Nat.beq i 0) =
      k (Bool.rec (Bool.rec (T.set x r (Nat.sub (Nat.div i 2) 1) fun r => id (.n v l r)) (T.set x l (Nat.div i 2) fun l => id (.n v l r)) (Nat.beq (Nat.mod i 2) 1)) (id (.n x l r)) (Nat.beq i 0))
    cases Nat.beq i 0 with
    | true => rfl
    | false =>
      cases Nat.beq (Nat.mod i 2) 1 with
      | true => show T.set x l _ _ = k (T.set x l _ _); rw [ihl _ (fun l => k (T.n v l r)), ihl _ (fun l => id (T.n v l r))]; rfl
      | false => show T.set x r _ _ = k (T.set x r _ _); rw [ihr _ (fun r => k (T.n v l r)), ihr _ (fun r => id (T.n v l r))]; rfl
theorem bsel {β : Type} (b : Bool) (x y : β) : (Bool.rec (motive := fun _ => β) x y b) = if b then y else x := by cases b <;> rfl
theorem natbeq (a b : Nat) : Nat.beq a b = decide (a = b) := by
  rw [Bool.eq_iff_iff]; simp
theorem T.get_e {α : Type} (i : Nat) : (T.e : T α).get i = none := rfl
theorem T.get_n {α : Type} (v : Option α) (l r : T α) (i : Nat) : (T.n v l r).get i = if i = 0 then v else if i % 2 = 1 then l.get (i / 2) else r.get (i / 2 - 1) := by
  show Bool.rec (motive := fun _ => Option α) (Bool.rec (motive := fun _ => Option α) (T.get r (Nat.sub (Nat.div i 2) 1)) (T.get l (Nat.div i 2)) (Nat.beq (Nat.mod i 2) 1)) v (Nat.beq i 0) = _
  simp only [bsel, natbeq, decide_eq_true_eq]; rfl
theorem T.get_setE {α : Type} (x : Option α) : ∀ (f i j : Nat), i < f → (T.setE x f i id).get j = if i = j then x else none := by
  intro f
  induction f with
  | zero => intro i j h; omega
  | succ f ih =>
    intro i j hi
    have hu : T.setE x (f+1) i id = (Bool.rec (Bool.rec (T.setE x f (Nat.sub (Nat.div i 2) 1) fun l => id (.n none .e l)) (T.setE x f (Nat.div i 2) fun l => id (.n none l .e)) (Nat.beq (Nat.mod i 2) 1)) (id (.n x .e .e)) (Nat.beq i 0) : T α) := rfl
    rw [hu]
    simp only [bsel, natbeq, decide_eq_true_eq]
    split
    · rename_i h0; subst h0; rw [id, T.get_n]; simp only [T.get_e]
      by_cases hj : j = 0
      · subst hj; simp
      · rw [if_neg hj, if_neg (show ¬ 0 = j by omega)]; split <;> rfl
    · rename_i h0
      split
      · rename_i h1
        have h1' : i % 2 = 1 := h1
        rw [T.setE_k, id, T.get_n, show Nat.div i 2 = i / 2 from rfl]
        simp only [T.get_e]
        rw [ih _ _ (by omega)]
        by_cases hj : j = 0
        · rw [if_pos hj, if_neg (by omega)]
        · rw [if_neg hj]
          by_cases hj1 : j % 2 = 1
          · rw [if_pos hj1]; by_cases h : i = j
            · rw [if_pos h, if_pos (by omega)]
            · rw [if_neg h, if_neg (by omega)]
          · rw [if_neg hj1, if_neg (by omega)]
      · rename_i h1
        have h1' : ¬ i % 2 = 1 := h1
        rw [T.setE_k, id, T.get_n, show Nat.sub (Nat.div i 2) 1 = i / 2 - 1 from rfl]
        simp only [T.get_e]
        rw [ih _ _ (by omega)]
        by_cases hj : j = 0
        · rw [if_pos hj, if_neg (by omega)]
        · rw [if_neg hj]
          by_cases hj1 : j % 2 = 1
          · rw [if_pos hj1, if_neg (by omega)]
          · rw [if_neg hj1]; by_cases h : i = j
            · rw [if_pos h, if_pos (by omega)]
            · rw [if_neg h, if_neg (by omega)]
theorem T.get_upd {α : Type} (x : Option α) (t : T α) : ∀ (i j : Nat), (t.upd i x).get j = if i = j then x else t.get j := by
  induction t with
  | e => intro i j; rw [T.upd, T.set_e, T.get_setE x _ _ _ (Nat.lt_succ_self i)]; rfl
  | n v l r ihl ihr =>
    intro i j
    have hu : T.upd (.n v l r) i x = (Bool.rec (Bool.rec (T.set x r (Nat.sub (Nat.div i 2) 1) fun r => id (.n v l r)) (T.set x l (Nat.div i 2) fun l => id (.n v l r)) (Nat.beq (Nat.mod i 2) 1)) (id (.n x l r)) (Nat.beq i 0) : T α) := rfl
    rw [hu]
    simp only [bsel, natbeq, decide_eq_true_eq]
    split
    · rename_i h0; subst h0; rw [id, T.get_n, T.get_n]
      by_cases hj : j = 0
      · subst hj; simp
      · rw [if_neg hj, if_neg hj, if_neg (show ¬ 0 = j by omega)]
    · rename_i h0
      split
      · rename_i h1
        have h1' : i % 2 = 1 := h1
        rw [T.set_k, id, T.get_n, T.get_n, ihl, show Nat.div i 2 = i / 2 from rfl]
        by_cases hj : j = 0
        · rw [if_pos hj, if_pos hj, if_neg (by omega)]
        · rw [if_neg hj, if_neg hj]
          by_cases hj1 : j % 2 = 1
          · rw [if_pos hj1, if_pos hj1]; by_cases h : i = j
            · rw [if_pos h, if_pos (by omega)]
            · rw [if_neg h, if_neg (by omega)]
          · rw [if_neg hj1, if_neg hj1, if_neg (by omega)]
      · rename_i h1
        have h1' : ¬ i % 2 = 1 := h1
        rw [T.set_k, id, T.get_n, T.get_n, ihr, show Nat.sub (Nat.div i 2) 1 = i / 2 - 1 from rfl]
        by_cases hj : j = 0
        · rw [if_pos hj, if_pos hj, if_neg (by omega)]
        · rw [if_neg hj, if_neg hj]
          by_cases hj1 : j % 2 = 1
          · rw [if_pos hj1, if_pos hj1, if_neg (by omega)]
          · rw [if_neg hj1, if_neg hj1]; by_cases h : i = j
            · rw [if_pos h, if_pos (by omega)]
            · rw [if_neg h, if_neg (by omega)]
/-! Maps of a fixed depth -/
noncomputable def Q.updF {α : Type} (f : α → α) (d : Dig) (q : Q α) : Q α :=
  match d with
  | .a => ⟨f q.a, q.b, q.c, q.d⟩
  | .b => ⟨q.a, f q.b, q.c, q.d⟩
  | .c => ⟨q.a, q.b, f q.c, q.d⟩
  | .z => ⟨q.a, q.b, q.c, f q.d⟩
theorem Q.put_k {α : Type} (g : α → α) (f : {β : Type} → α → (α → β) → β) (hf : ∀ {β : Type} (a : α) (k : α → β), f a k = k (g a)) {β : Type} (d : Dig) (q : Q α) (k : Q α → β) :
    Q.put f d q k = k (Q.updF g d q) := by
  cases q; cases d <;> exact hf _ _
theorem Q.at_upd {α : Type} (f : α → α) (d e : Dig) (q : Q α) : (Q.updF f d q).at e = if d = e then f (q.at d) else q.at e := by
  cases q; cases d <;> cases e <;> rfl
noncomputable def Q4.upd {α : Type} (q : Q4 α) (i : Nat) (x : Option α) : Q4 α :=
  Q.updF (Q.updF (Q.updF (Q.updF (fun _ => x) (dg 1 i)) (dg 4 i)) (dg 16 i)) (dg 64 i) q
theorem Q4.set_k {α β : Type} (x : Option α) (q : Q4 α) (i : Nat) (k : Q4 α → β) : Q4.set x q i k = k (q.upd i x) := by
  unfold Q4.set Q4.upd
  exact Q.put_k _ (fun {β} => Q.put (Q.put (Q.put (fun _ k => k x) (dg 1 i)) (dg 4 i)) (dg 16 i))
    (fun {β} a k => Q.put_k _ (fun {β} => Q.put (Q.put (fun _ k => k x) (dg 1 i)) (dg 4 i))
      (fun {β} a k => Q.put_k _ (fun {β} => Q.put (fun _ k => k x) (dg 1 i))
        (fun {β} a k => Q.put_k (fun _ => x) (fun {β} _ k => k x) (fun a k => rfl) _ _ _) _ _ _) _ _ _) _ _ _
noncomputable def Q8.upd {α : Type} (q : Q8 α) (i : Nat) (x : Option α) : Q8 α :=
  Q.updF (Q.updF (Q.updF (Q.updF (fun q => Q4.upd q i x) (dg 256 i)) (dg 1024 i)) (dg 4096 i)) (dg 16384 i) q
theorem Q8.set_k {α β : Type} (x : Option α) (q : Q8 α) (i : Nat) (k : Q8 α → β) : Q8.set x q i k = k (q.upd i x) := by
  unfold Q8.set Q8.upd
  exact Q.put_k _ (fun {β} => Q.put (Q.put (Q.put (fun q k => Q4.set x q i k) (dg 256 i)) (dg 1024 i)) (dg 4096 i))
    (fun {β} a k => Q.put_k _ (fun {β} => Q.put (Q.put (fun q k => Q4.set x q i k) (dg 256 i)) (dg 1024 i))
      (fun {β} a k => Q.put_k _ (fun {β} => Q.put (fun q k => Q4.set x q i k) (dg 256 i))
        (fun {β} a k => Q.put_k (fun q => Q4.upd q i x) (fun {β} q k => Q4.set x q i k) (fun a k => Q4.set_k _ _ _ _) _ _ _) _ _ _) _ _ _) _ _ _
theorem dgt_inj {x y : Nat} (h : dgt x = dgt y) : x % 4 = y % 4 := by
  unfold dgt at h
  have hx : Nat.mod x 4 < 4 := Nat.mod_lt _ (by decide)
  have hy : Nat.mod y 4 < 4 := Nat.mod_lt _ (by decide)
  show Nat.mod x 4 = Nat.mod y 4
  generalize Nat.mod x 4 = a at *
  generalize Nat.mod y 4 = b at *
  match a, hx with
  | 0, _ => match b, hy with | 0, _ => rfl | 1, _ => cases h | 2, _ => cases h | 3, _ => cases h
  | 1, _ => match b, hy with | 0, _ => cases h | 1, _ => rfl | 2, _ => cases h | 3, _ => cases h
  | 2, _ => match b, hy with | 0, _ => cases h | 1, _ => cases h | 2, _ => rfl | 3, _ => cases h
  | 3, _ => match b, hy with | 0, _ => cases h | 1, _ => cases h | 2, _ => cases h | 3, _ => rfl
theorem dg_inj {k x y : Nat} (h : dg k x = dg k y) : x / k % 4 = y / k % 4 := dgt_inj h
theorem Q4.get_upd {α : Type} (q : Q4 α) (i j : Nat) (x : Option α) (hi : i < 256) (hj : j < 256) : Q4.get (q.upd i x) j = if i = j then x else Q4.get q j := by
  unfold Q4.get Q4.upd
  rw [Q.at_upd]
  by_cases h1 : dg 64 i = dg 64 j
  · rw [if_pos h1, Q.at_upd]
    by_cases h2 : dg 16 i = dg 16 j
    · rw [if_pos h2, Q.at_upd]
      by_cases h3 : dg 4 i = dg 4 j
      · rw [if_pos h3, Q.at_upd]
        by_cases h4 : dg 1 i = dg 1 j
        · have a1 := dg_inj h1; have a2 := dg_inj h2; have a3 := dg_inj h3; have a4 := dg_inj h4
          rw [if_pos h4, if_pos (by omega)]
        · rw [if_neg h4, if_neg (fun h => h4 (by rw [h])), h1, h2, h3]
      · rw [if_neg h3, if_neg (fun h => h3 (by rw [h])), h1, h2]
    · rw [if_neg h2, if_neg (fun h => h2 (by rw [h])), h1]
  · rw [if_neg h1, if_neg (fun h => h1 (by rw [h]))]
theorem Q4.get_upd_mod {α : Type} (q : Q4 α) (i j : Nat) (x : Option α) : Q4.get (q.upd i x) j = if i % 256 = j % 256 then x else Q4.get q j := by
  unfold Q4.get Q4.upd
  rw [Q.at_upd]
  by_cases h1 : dg 64 i = dg 64 j
  · rw [if_pos h1, Q.at_upd]
    by_cases h2 : dg 16 i = dg 16 j
    · rw [if_pos h2, Q.at_upd]
      by_cases h3 : dg 4 i = dg 4 j
      · rw [if_pos h3, Q.at_upd]
        by_cases h4 : dg 1 i = dg 1 j
        · have a1 := dg_inj h1; have a2 := dg_inj h2; have a3 := dg_inj h3; have a4 := dg_inj h4
          rw [if_pos h4, if_pos (by omega)]
        · rw [if_neg h4, if_neg (fun h => h4 (by unfold dg dgt; rw [show Nat.mod (Nat.div i 1) 4 = Nat.mod (Nat.div j 1) 4 from by show i / 1 % 4 = j / 1 % 4; omega])), h1, h2, h3]
      · rw [if_neg h3, if_neg (fun h => h3 (by unfold dg dgt; rw [show Nat.mod (Nat.div i 4) 4 = Nat.mod (Nat.div j 4) 4 from by show i / 4 % 4 = j / 4 % 4; omega])), h1, h2]
    · rw [if_neg h2, if_neg (fun h => h2 (by unfold dg dgt; rw [show Nat.mod (Nat.div i 16) 4 = Nat.mod (Nat.div j 16) 4 from by show i / 16 % 4 = j / 16 % 4; omega])), h1]
  · rw [if_neg h1, if_neg (fun h => h1 (by unfold dg dgt; rw [show Nat.mod (Nat.div i 64) 4 = Nat.mod (Nat.div j 64) 4 from by show i / 64 % 4 = j / 64 % 4; omega]))]
/-- The symbols that a heap can hold. -/
def LIM : Nat := 65536
theorem Q8.get_upd {α : Type} (q : Q8 α) (i j : Nat) (x : Option α) (hi : i < LIM) (hj : j < LIM) : Q8.get (q.upd i x) j = if i = j then x else Q8.get q j := by
  have hi : i < 65536 := hi
  have hj : j < 65536 := hj
  unfold Q8.get Q8.upd
  rw [Q.at_upd]
  by_cases h1 : dg 16384 i = dg 16384 j
  · rw [if_pos h1, Q.at_upd]
    by_cases h2 : dg 4096 i = dg 4096 j
    · rw [if_pos h2, Q.at_upd]
      by_cases h3 : dg 1024 i = dg 1024 j
      · rw [if_pos h3, Q.at_upd]
        by_cases h4 : dg 256 i = dg 256 j
        · have a1 := dg_inj h1; have a2 := dg_inj h2; have a3 := dg_inj h3; have a4 := dg_inj h4
          rw [if_pos h4, Q4.get_upd_mod]
          by_cases h : i = j
          · rw [if_pos h, if_pos (by rw [h])]
          · rw [if_neg h, if_neg (by omega), h1, h2, h3, h4]
        · rw [if_neg h4, if_neg (fun h => h4 (by rw [h])), h1, h2, h3]
      · rw [if_neg h3, if_neg (fun h => h3 (by rw [h])), h1, h2]
    · rw [if_neg h2, if_neg (fun h => h2 (by rw [h])), h1]
  · rw [if_neg h1, if_neg (fun h => h1 (by rw [h]))]
/-! Temporaries -/
noncomputable def Env.upd (e : Env) (t : Nat) (v : AV) : Env := e.put t v id
theorem Env.put_k {β : Type} (e : Env) (t : Nat) (v : AV) (k : Env → β) : e.put t v k = k (e.upd t v) := by
  cases e with
  | mk V l p q =>
    show Bool.rec (k (.mk V ((t, v) :: l) p q)) (Q4.set (some v) q t fun q => k (.mk V l p q)) (isV V t) = k (Bool.rec (motive := fun _ => Env) (id (.mk V ((t, v) :: l) p q)) (Q4.set (some v) q t fun q => id (.mk V l p q)) (isV V t))
    cases isV V t <;> simp only [Q4.set_k, id]
theorem lget_cons (t u : Nat) (v : AV) (d : Option AV) (l : List (Nat × AV)) : lget t d ((u, v) :: l) = if u = t then some v else lget t d l := by
  show Bool.rec (motive := fun _ => Option AV) (lget t d l) (some v) (Nat.beq u t) = _
  rw [bsel, natbeq]; simp only [decide_eq_true_eq]
theorem isV_lt {V t : Nat} (h : isV V t = true) : t < 256 := by
  unfold isV at h
  split at h
  · rename_i hb; exact Nat.ble_eq.mp hb
  · cases h
theorem Env.get_upd (e : Env) (t u : Nat) (v : AV) : (e.upd t v).get u = if t = u then some v else e.get u := by
  cases e with
  | mk V l p q =>
    have hu : Env.upd (.mk V l p q) t v = (Bool.rec (motive := fun _ => Env) (id (.mk V ((t, v) :: l) p q)) (Q4.set (some v) q t fun q => id (.mk V l p q)) (isV V t) : Env) := rfl
    rw [hu]
    cases ht : isV V t with
    | true =>
      simp only [Q4.set_k, id]
      show Bool.rec (motive := fun _ => Option AV) (lget u (lget u none p) l) (Q4.get (q.upd t (some v)) u) (isV V u) = if t = u then some v else Bool.rec (motive := fun _ => Option AV) (lget u (lget u none p) l) (Q4.get q u) (isV V u)
      cases hu' : isV V u with
      | true => simp only; exact Q4.get_upd q t u _ (isV_lt ht) (isV_lt hu')
      | false => rw [if_neg]; intro h; rw [h, hu'] at ht; cases ht
    | false =>
      show Bool.rec (motive := fun _ => Option AV) (lget u (lget u none p) ((t, v) :: l)) (Q4.get q u) (isV V u) = if t = u then some v else Bool.rec (motive := fun _ => Option AV) (lget u (lget u none p) l) (Q4.get q u) (isV V u)
      cases hu' : isV V u with
      | true => rw [if_neg]; intro h; rw [h, hu'] at ht; cases ht
      | false => exact lget_cons u t v _ l
theorem lget_some {t : Nat} {d : Option AV} {l : List (Nat × AV)} {v : AV} (h : lget t none l = some v) : lget t d l = some v := by
  induction l with
  | nil => cases h
  | cons a r ih =>
    obtain ⟨u, x⟩ := a
    rw [lget_cons] at h ⊢
    split
    · rename_i hu; rw [if_pos hu] at h; exact h
    · rename_i hu; rw [if_neg hu] at h; exact ih h
theorem lget_none {t : Nat} {d : Option AV} {l : List (Nat × AV)} {v : AV} (h : lget t d l = some v) : lget t none l = some v ∨ (lget t none l = none ∧ d = some v) := by
  induction l with
  | nil => exact .inr ⟨rfl, h⟩
  | cons a r ih =>
    obtain ⟨u, x⟩ := a
    rw [lget_cons] at h ⊢
    split
    · rename_i hu; rw [if_pos hu] at h; exact .inl h
    · rename_i hu; rw [if_neg hu] at h; exact ih h
/-- A new region forgets some temporaries, and changes none. -/
theorem Env.get_fresh {e : Env} {t : Nat} {v : AV} (h : e.fresh.get t = some v) : e.get t = some v := by
  cases e with
  | mk V l p q =>
    have h : (Bool.rec (motive := fun _ => Option AV) (lget t (lget t none l) []) (Q4.get q t) (isV V t) : Option AV) = some v := h
    show (Bool.rec (motive := fun _ => Option AV) (lget t (lget t none p) l) (Q4.get q t) (isV V t) : Option AV) = some v
    cases hv : isV V t with
    | true => rw [hv] at h; exact h
    | false => rw [hv] at h; exact lget_some h
end Go.Sy
namespace Go.Sy
open Go
/-! ### What the symbols stand for -/
structure Sg where
  blk : Nat → Option Nat
  cap : Nat → Nat
def Cap.val (s : Sg) (x : Nat) : Cap → Nat
  | .k n => n
  | .u o => s.cap x - o
/-- No more elements than the capacity says. -/
def Cap.fits (s : Sg) (x n : Nat) : Cap → Bool
  | .k c => decide (n ≤ c)
  | .u o => decide (o + n ≤ s.cap x)
/-- What is known of a comparison holds. -/
def testB (x : Int) (t : Nat × Int × Bool) : Bool :=
  match t.1 with
  | 1 => decide (x = t.2.1) == t.2.2
  | 2 => decide (x ≠ t.2.1) == t.2.2
  | 3 => decide (x < t.2.1) == t.2.2
  | 4 => decide (x ≤ t.2.1) == t.2.2
  | 5 => decide (t.2.1 < x) == t.2.2
  | 6 => decide (t.2.1 ≤ x) == t.2.2
  | _ => false
def lenV : Value → Option Int
  | .string s => some s.size
  | .slice _ n _ => some n
  | _ => none
mutual
def AV.conc (s : Sg) : AV → Option Value
  | .b v => some (.bool v)
  | .i k n => some (.int k n)
  | .s l => some (.string ⟨⟨l⟩⟩)
  | .p0 => some (.pointer none)
  | .p x o => (s.blk x).map fun b => .pointer (some ⟨b, o, none⟩)
  | .sl0 => some (.slice none 0 0)
  | .sl x o n c => if c.fits s x n then (s.blk x).map fun b => .slice (some ⟨b, o, none⟩) n (c.val s x) else none
  | .se x o d u => if u ≤ s.cap x then (s.blk x).map fun b => .slice (some ⟨b, if s.cap x = u then o else o + d, none⟩) 0 (s.cap x - u) else none
  | .m0 => some (.map none)
  | .m x => (s.blk x).map fun b => .map (some b)
  | .fn f a c => match f with
    | .func g => (match concL s a, concL s c with | some a, some c => some (.func (.func g) ⟨a⟩ ⟨c⟩) | _, _ => none)
    | _ => none
  | .yl x => (s.blk x).map fun b => .func (.yield b) #[] #[]
  | .fn0 => some .nilFunc
  | .if0 => some .nilIface
  | .ifc t v => (v.conc s).map fun v => .iface t v
  | .agg l => match concL s l with | some vs => if vs.all Value.oneCell' then some (.agg ⟨vs⟩) else none | none => none
  | .tup l => (concL s l).map fun vs => .tuple ⟨vs⟩
  | .ov v => if v.oneCell' then some v else none
  | .oi k x ts => if ts.all (testB x) then some (.int k x) else none
  | .ol v x ts => if v.oneCell' && decide (lenV v = some x) && ts.all (testB x) then some v else none
def concL (s : Sg) : List AV → Option (List Value)
  | [] => some []
  | a :: r => match a.conc s, concL s r with | some v, some vs => some (v :: vs) | _, _ => none
end
/-- s' knows all that s knows. -/
def Sg.le (s s' : Sg) : Prop := ∀ x b, s.blk x = some b → s'.blk x = some b ∧ s'.cap x = s.cap x
theorem Sg.le.refl (s : Sg) : s.le s := fun _ _ h => ⟨h, rfl⟩
theorem Sg.le.trans {s t u : Sg} (h : s.le t) (k : t.le u) : s.le u := fun x b e =>
  let ⟨h1, h2⟩ := h x b e
  let ⟨k1, k2⟩ := k x b h1
  ⟨k1, k2.trans h2⟩
theorem concL_cons {s : Sg} {a : AV} {r : List AV} {vs : List Value} : concL s (a :: r) = some vs ↔ ∃ v us, a.conc s = some v ∧ concL s r = some us ∧ vs = v :: us := by
  simp only [concL]
  cases a.conc s <;> cases concL s r <;> simp [eq_comm]
theorem concL_nil {s : Sg} {vs : List Value} : concL s [] = some vs ↔ vs = [] := by simp [concL, eq_comm]
theorem concL_length {s : Sg} : ∀ {l : List AV} {vs : List Value}, concL s l = some vs → vs.length = l.length
  | [], vs, h => by rw [concL_nil] at h; subst h; rfl
  | a :: r, vs, h => by
    obtain ⟨v, us, _, h2, rfl⟩ := concL_cons.1 h
    simp [concL_length h2]
theorem concL_get {s : Sg} : ∀ {l : List AV} {vs : List Value}, concL s l = some vs → ∀ {i : Nat} {a : AV}, l[i]? = some a → ∃ v, a.conc s = some v ∧ vs[i]? = some v
  | [], vs, h, i, a, ha => by simp at ha
  | b :: r, vs, h, i, a, ha => by
    obtain ⟨v, us, h1, h2, rfl⟩ := concL_cons.1 h
    cases i with
    | zero => simp at ha; subst ha; exact ⟨v, h1, rfl⟩
    | succ i => simp at ha; simpa using concL_get h2 ha
theorem concL_append {s : Sg} : ∀ {l m : List AV} {vs us : List Value}, concL s l = some vs → concL s m = some us → concL s (l ++ m) = some (vs ++ us)
  | [], m, vs, us, h, k => by rw [concL_nil] at h; subst h; exact k
  | a :: r, m, vs, us, h, k => by
    obtain ⟨v, ws, h1, h2, rfl⟩ := concL_cons.1 h
    exact concL_cons.2 ⟨v, ws ++ us, h1, concL_append h2 k, rfl⟩
theorem concL_take {s : Sg} : ∀ {l : List AV} {vs : List Value} (n : Nat), concL s l = some vs → concL s (l.take n) = some (vs.take n)
  | [], vs, n, h => by rw [concL_nil] at h; subst h; simp [concL]
  | a :: r, vs, 0, h => by simp [concL]
  | a :: r, vs, n + 1, h => by
    obtain ⟨v, ws, h1, h2, rfl⟩ := concL_cons.1 h
    exact concL_cons.2 ⟨v, _, h1, concL_take n h2, rfl⟩
theorem concL_drop {s : Sg} : ∀ {l : List AV} {vs : List Value} (n : Nat), concL s l = some vs → concL s (l.drop n) = some (vs.drop n)
  | l, vs, 0, h => h
  | [], vs, n + 1, h => by rw [concL_nil] at h; subst h; simp [concL]
  | a :: r, vs, n + 1, h => by
    obtain ⟨v, ws, h1, h2, rfl⟩ := concL_cons.1 h
    exact concL_drop n h2
mutual
theorem AV.conc_le {s s' : Sg} (h : s.le s') : ∀ (a : AV) {v : Value}, a.conc s = some v → a.conc s' = some v
  | .b _, v, e => e
  | .i _ _, v, e => e
  | .s _, v, e => e
  | .p0, v, e => e
  | .p x o, v, e => by
    simp only [AV.conc, Option.map_eq_some_iff] at e ⊢
    obtain ⟨b, hb, rfl⟩ := e
    exact ⟨b, (h x b hb).1, rfl⟩
  | .sl0, v, e => e
  | .sl x o n c, v, e => by
    simp only [AV.conc] at e ⊢
    split at e
    · rename_i hf
      simp only [Option.map_eq_some_iff] at e
      obtain ⟨b, hb, rfl⟩ := e
      have hf' : c.fits s' x n = true := by cases c <;> simp only [Cap.fits, (h x b hb).2] at hf ⊢ <;> exact hf
      rw [hf', if_pos rfl, (h x b hb).1]
      cases c <;> simp [Cap.val, (h x b hb).2]
    · cases e
  | .se x o d u, v, e => by
    simp only [AV.conc] at e ⊢
    split at e
    · rename_i hf
      simp only [Option.map_eq_some_iff] at e
      obtain ⟨b, hb, rfl⟩ := e
      rw [(h x b hb).2, if_pos hf, (h x b hb).1]; rfl
    · cases e
  | .m0, v, e => e
  | .ov _, v, e => e
  | .oi _ _ _, v, e => e
  | .ol _ _ _, v, e => e
  | .m x, v, e => by
    simp only [AV.conc, Option.map_eq_some_iff] at e ⊢
    obtain ⟨b, hb, rfl⟩ := e
    exact ⟨b, (h x b hb).1, rfl⟩
  | .fn f a c, v, e => by
    cases f with
    | func g =>
      simp only [AV.conc] at e ⊢
      split at e
      · rename_i x y hx hy
        rw [concL_le h a hx, concL_le h c hy]; exact e
      · cases e
    | _ => simp [AV.conc] at e
  | .yl x, v, e => by
    simp only [AV.conc, Option.map_eq_some_iff] at e ⊢
    obtain ⟨b, hb, rfl⟩ := e
    exact ⟨b, (h x b hb).1, rfl⟩
  | .fn0, v, e => e
  | .if0, v, e => e
  | .ifc t a, v, e => by
    simp only [AV.conc, Option.map_eq_some_iff] at e ⊢
    obtain ⟨b, hb, rfl⟩ := e
    exact ⟨b, AV.conc_le h a hb, rfl⟩
  | .agg l, v, e => by
    simp only [AV.conc] at e ⊢
    split at e
    · rename_i x hx
      rw [concL_le h l hx]; exact e
    · cases e
  | .tup l, v, e => by
    simp only [AV.conc, Option.map_eq_some_iff] at e ⊢
    obtain ⟨b, hb, rfl⟩ := e
    exact ⟨b, concL_le h l hb, rfl⟩
theorem concL_le {s s' : Sg} (h : s.le s') : ∀ (l : List AV) {vs : List Value}, concL s l = some vs → concL s' l = some vs
  | [], vs, e => e
  | a :: r, vs, e => by
    obtain ⟨v, us, h1, h2, rfl⟩ := concL_cons.1 e
    exact concL_cons.2 ⟨v, us, AV.conc_le h a h1, concL_le h r h2, rfl⟩
end
/-! ### Ground values -/
theorem cellOf_conc {v : Value} {a : AV} (h : cellOf v = some a) (s : Sg) : a.conc s = some v ∧ v.oneCell' = true := by
  unfold cellOf at h
  split at h <;> simp at h <;> subst h <;> simp [AV.conc, Value.oneCell']
theorem cellsOf_conc (s : Sg) : ∀ {l : List Value} {as : List AV}, cellsOf l = some as → concL s as = some l ∧ l.all Value.oneCell' = true
  | [], as, h => by simp [cellsOf] at h; subst h; simp [concL]
  | v :: r, as, h => by
    have hu : cellsOf (v :: r) = (match cellOf v with | some a => (match cellsOf r with | some r => some (a :: r) | none => none) | none => none) := rfl
    rw [hu] at h
    split at h
    · rename_i a ha
      split at h
      · rename_i t ht
        injection h with h; subst h
        obtain ⟨h1, h2⟩ := cellOf_conc ha s
        obtain ⟨k1, k2⟩ := cellsOf_conc s ht
        exact ⟨concL_cons.2 ⟨v, r, h1, k1, rfl⟩, by simp only [List.all_cons, h2, k2, Bool.and_self]⟩
      · cases h
    · cases h
theorem ofValue_conc {v : Value} {a : AV} (h : ofValue v = some a) (s : Sg) : a.conc s = some v := by
  unfold ofValue at h
  split at h
  · rename_i cs
    split at h
    · rename_i l hl
      injection h with h; subst h
      obtain ⟨h1, h2⟩ := cellsOf_conc s hl
      simp only [AV.conc, h1, h2, if_true]
    · cases h
  · rename_i cs
    split at h
    · rename_i l hl
      injection h with h; subst h
      obtain ⟨h1, h2⟩ := cellsOf_conc s hl
      simp only [AV.conc, h1, Option.map_some]
    · cases h
  · rename_i t v
    split at h
    · rename_i l hl
      injection h with h; subst h
      simp only [AV.conc, (cellOf_conc hl s).1, Option.map_some]
    · cases h
  · exact (cellOf_conc h s).1
theorem valOf1_conc {v : Value} {a : AV} (h : valOf1 a = some v) (s : Sg) : a.conc s = some v := by
  unfold valOf1 at h
  split at h <;> simp at h <;> subst h <;> simp [AV.conc]
theorem valOf1_cell {v : Value} {a : AV} (h : valOf1 a = some v) : v.oneCell' = true := by
  unfold valOf1 at h
  split at h <;> simp at h <;> subst h <;> rfl
theorem valsOf_conc (s : Sg) : ∀ {l : List AV} {vs : List Value}, valsOf l = some vs → concL s l = some vs ∧ vs.all Value.oneCell' = true
  | [], vs, h => by simp [valsOf] at h; subst h; simp [concL]
  | a :: r, vs, h => by
    have hu : valsOf (a :: r) = (match valOf1 a with | some a => (match valsOf r with | some r => some (a :: r) | none => none) | none => none) := rfl
    rw [hu] at h
    split at h
    · rename_i v hv
      split at h
      · rename_i t ht
        injection h with h; subst h
        obtain ⟨k1, k2⟩ := valsOf_conc s ht
        exact ⟨concL_cons.2 ⟨v, t, valOf1_conc hv s, k1, rfl⟩, by simp only [List.all_cons, valOf1_cell hv, k2, Bool.and_self]⟩
      · cases h
    · cases h
theorem valOf_conc {v : Value} {a : AV} (h : valOf a = some v) (s : Sg) : a.conc s = some v := by
  unfold valOf at h
  split at h
  · rename_i l
    split at h
    · rename_i cs hl
      injection h with h; subst h
      obtain ⟨h1, h2⟩ := valsOf_conc s hl
      simp only [AV.conc, h1, h2, if_true]
    · cases h
  · rename_i l
    split at h
    · rename_i cs hl
      injection h with h; subst h
      simp only [AV.conc, (valsOf_conc s hl).1, Option.map_some]
    · cases h
  · rename_i t v
    split at h
    · rename_i l hl
      injection h with h; subst h
      simp only [AV.conc, valOf1_conc hl s, Option.map_some]
    · cases h
  · exact valOf1_conc h s
/-- The cells of a value, as the model lists them. -/
theorem cells_conc {s : Sg} {a : AV} {v : Value} (h : a.conc s = some v) (ht : ∀ l, a ≠ .tup l) : ∃ vs, concL s a.cells = some vs ∧ v.cells = ⟨vs⟩ ∧ vs.all Value.oneCell' = true := by
  cases a with
  | agg l =>
    simp only [AV.conc] at h
    split at h
    · rename_i vs hvs
      split at h
      · rename_i hall
        injection h with h; subst h
        exact ⟨vs, hvs, rfl, hall⟩
      · cases h
    · cases h
  | tup l => exact absurd rfl (ht l)
  | fn f x y =>
    refine ⟨[v], by show concL s [_] = _; exact concL_cons.2 ⟨v, [], h, rfl, rfl⟩, ?_, ?_⟩ <;>
    · cases f <;> simp only [AV.conc] at h
      · split at h
        · injection h with h; subst h; rfl
        · cases h
      all_goals cases h
  | ifc t x =>
    simp only [AV.conc, Option.map_eq_some_iff] at h
    obtain ⟨u, hu, rfl⟩ := h
    exact ⟨[.iface t u], by show concL s [_] = _; exact concL_cons.2 ⟨_, [], by simp [AV.conc, hu], rfl, rfl⟩, rfl, rfl⟩
  | b | i | s | p0 | sl0 | m0 | fn0 | if0 =>
    simp only [AV.conc] at h; injection h with h; subst h
    exact ⟨[_], by show concL s [_] = _; exact concL_cons.2 ⟨_, [], rfl, rfl, rfl⟩, rfl, rfl⟩
  | ov u =>
    have h0 := h
    simp only [AV.conc] at h
    split at h
    · rename_i h1
      injection h with h; subst h
      refine ⟨[u], by show concL s [_] = _; exact concL_cons.2 ⟨_, [], h0, rfl, rfl⟩, ?_, by simp [h1]⟩
      cases u <;> first | rfl | (simp [Value.oneCell'] at h1; done)
    · cases h
  | oi =>
    have h0 := h
    simp only [AV.conc] at h
    split at h
    · injection h with h; subst h
      exact ⟨[_], by show concL s [_] = _; exact concL_cons.2 ⟨_, [], h0, rfl, rfl⟩, rfl, rfl⟩
    · cases h
  | ol u =>
    have h0 := h
    simp only [AV.conc] at h
    split at h
    · rename_i h1
      injection h with h; subst h
      rw [Bool.and_eq_true, Bool.and_eq_true] at h1
      refine ⟨[u], by show concL s [_] = _; exact concL_cons.2 ⟨_, [], h0, rfl, rfl⟩, ?_, by simp [h1.1.1]⟩
      have h1 := h1.1.1
      cases u <;> first | rfl | (simp [Value.oneCell'] at h1; done)
    · cases h
  | sl | se =>
    have h0 := h
    simp only [AV.conc] at h
    split at h
    · simp only [Option.map_eq_some_iff] at h
      obtain ⟨u, hu, rfl⟩ := h
      exact ⟨[_], by show concL s [_] = _; exact concL_cons.2 ⟨_, [], h0, rfl, rfl⟩, rfl, rfl⟩
    · cases h
  | p | m | yl =>
    have h0 := h
    simp only [AV.conc, Option.map_eq_some_iff] at h
    obtain ⟨u, hu, rfl⟩ := h
    exact ⟨[_], by show concL s [_] = _; exact concL_cons.2 ⟨_, [], h0, rfl, rfl⟩, rfl, rfl⟩
/-! ### Temporaries -/
structure EnvR (s : Sg) (e : Env) (N : Nat) (ts : Array Value) : Prop where
  size : N ≤ ts.size
  get : ∀ t a, e.get t = some a → ∃ v, a.conc s = some v ∧ ts[t]? = some v
theorem EnvR.le {s s' : Sg} {e : Env} {N : Nat} {ts : Array Value} (h : EnvR s e N ts) (k : s.le s') : EnvR s' e N ts :=
  ⟨h.size, fun t a ha => let ⟨v, h1, h2⟩ := h.get t a ha; ⟨v, AV.conc_le k a h1, h2⟩⟩
theorem EnvR.fresh {s : Sg} {e : Env} {N : Nat} {ts : Array Value} (h : EnvR s e N ts) : EnvR s e.fresh N ts :=
  ⟨h.size, fun t a ha => h.get t a (Env.get_fresh ha)⟩
theorem EnvR.upd {s : Sg} {e : Env} {N : Nat} {ts : Array Value} (h : EnvR s e N ts) {d : Nat} (hd : d < N) {a : AV} {v : Value} (hv : a.conc s = some v) : EnvR s (e.upd d a) N (ts.setIfInBounds d v) := by
  refine ⟨by simpa using h.size, fun t b hb => ?_⟩
  rw [Env.get_upd] at hb
  split at hb
  · rename_i he; subst he
    injection hb with hb; subst hb
    exact ⟨v, hv, by simp [Nat.lt_of_lt_of_le hd h.size]⟩
  · rename_i he
    obtain ⟨u, h1, h2⟩ := h.get t b hb
    exact ⟨u, h1, by rw [Array.getElem?_setIfInBounds_ne he]; exact h2⟩
theorem sl_conc {s : Sg} {x o n : Nat} {c : Cap} {V : Value} : (AV.sl x o n c).conc s = some V ↔ ∃ b, s.blk x = some b ∧ c.fits s x n = true ∧ V = .slice (some ⟨b, o, none⟩) n (c.val s x) := by
  simp only [AV.conc]
  split
  · rename_i h; simp only [Option.map_eq_some_iff]
    exact ⟨fun ⟨b, h1, h2⟩ => ⟨b, h1, h, h2.symm⟩, fun ⟨b, h1, _, h2⟩ => ⟨b, h1, h2.symm⟩⟩
  · rename_i h; exact ⟨fun e => (by cases e), fun ⟨b, _, h1, _⟩ => absurd h1 h⟩
theorem se_conc {s : Sg} {x o d u : Nat} {V : Value} : (AV.se x o d u).conc s = some V ↔ ∃ b, s.blk x = some b ∧ u ≤ s.cap x ∧ V = .slice (some ⟨b, if s.cap x = u then o else o + d, none⟩) 0 (s.cap x - u) := by
  simp only [AV.conc]
  split
  · rename_i h; simp only [Option.map_eq_some_iff]
    exact ⟨fun ⟨b, h1, h2⟩ => ⟨b, h1, h, h2.symm⟩, fun ⟨b, h1, _, h2⟩ => ⟨b, h1, h2.symm⟩⟩
  · rename_i h; exact ⟨fun e => (by cases e), fun ⟨b, _, h1, _⟩ => absurd h1 h⟩
/-- The package-level variables lie at their own numbers. -/
def Sg.glob (s : Sg) : Prop := ∀ g, g < 64 → s.blk g = some g
theorem opd_conc {s : Sg} {e : Env} {N : Nat} {a : Act} (h : EnvR s e N a.tmps) (hg : s.glob) {x : Operand} {v : AV} (hx : opd e x = some v) : v.conc s = some (a.eval x) := by
  cases x with
  | tmp t =>
    obtain ⟨u, h1, h2⟩ := h.get t v hx
    rw [h1]; simp [Act.eval, h2]
  | const c => exact ofValue_conc hx s
  | global g =>
    have hx : (match Nat.blt g 64 with | true => some (AV.p g 0) | false => none) = some v := hx
    split at hx
    · rename_i hb
      injection hx with hx; subst hx
      simp [AV.conc, hg g (Nat.ble_eq.mp hb), Act.eval]
    · cases hx
  | func f => injection hx with hx; subst hx; simp [AV.conc, concL, Act.eval]
theorem opds_conc {s : Sg} {e : Env} {N : Nat} {a : Act} (h : EnvR s e N a.tmps) (hg : s.glob) : ∀ {l : List Operand} {vs : List AV}, opds e l = some vs → concL s vs = some (l.map a.eval)
  | [], vs, hx => by simp [opds] at hx; subst hx; simp [concL]
  | x :: r, vs, hx => by
    have hu : opds e (x :: r) = (match opd e x with | some a => (match opds e r with | some r => some (a :: r) | none => none) | none => none) := rfl
    rw [hu] at hx
    split at hx
    · rename_i u hu
      split at hx
      · rename_i t ht
        injection hx with hx; subst hx
        exact concL_cons.2 ⟨_, _, opd_conc h hg hu, opds_conc h hg ht, rfl⟩
      · cases hx
    · cases hx
end Go.Sy

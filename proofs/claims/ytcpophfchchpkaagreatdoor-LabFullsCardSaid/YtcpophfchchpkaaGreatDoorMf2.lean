/- SymAF, SymB -/
import Derived.Test.YtcpophfchchpkaaGreatDoorMf1
namespace Go.Sy
open Go
/-! ### Quick ways through the commonest operations: what they give is what the plain ones give -/
noncomputable def AV.nat (a : AV) : Option (IntKind × Nat) :=
  AV.rec (motive_1 := fun _ => Option (IntKind × Nat)) (motive_2 := fun _ => Unit)
    (fun _ => none) (fun k n => Int.rec (fun m => some (k, m)) (fun _ => none) n) (fun _ => none) none (fun _ _ => none) none (fun _ _ _ _ => none) (fun _ _ _ _ => none) none (fun _ => none)
    (fun _ _ _ _ _ => none) (fun _ => none) none none (fun _ _ _ => none) (fun _ _ => none) (fun _ _ => none) (fun _ => none) (fun _ _ _ => none) (fun _ _ _ => none) () (fun _ _ _ _ => ()) a
noncomputable def AV.ptr (a : AV) : Option (Nat × Nat) :=
  AV.rec (motive_1 := fun _ => Option (Nat × Nat)) (motive_2 := fun _ => Unit)
    (fun _ => none) (fun _ _ => none) (fun _ => none) none (fun x o => some (x, o)) none (fun _ _ _ _ => none) (fun _ _ _ _ => none) none (fun _ => none)
    (fun _ _ _ _ _ => none) (fun _ => none) none none (fun _ _ _ => none) (fun _ _ => none) (fun _ _ => none) (fun _ => none) (fun _ _ _ => none) (fun _ _ _ => none) () (fun _ _ _ _ => ()) a
noncomputable def AV.sli (a : AV) : Option (Nat × Nat × Nat) :=
  AV.rec (motive_1 := fun _ => Option (Nat × Nat × Nat)) (motive_2 := fun _ => Unit)
    (fun _ => none) (fun _ _ => none) (fun _ => none) none (fun _ _ => none) none (fun x o n _ => some (x, o, n)) (fun _ _ _ _ => none) none (fun _ => none)
    (fun _ _ _ _ _ => none) (fun _ => none) none none (fun _ _ _ => none) (fun _ _ => none) (fun _ _ => none) (fun _ => none) (fun _ _ _ => none) (fun _ _ _ => none) () (fun _ _ _ _ => ()) a
noncomputable def AV.boo (a : AV) : Option Bool :=
  AV.rec (motive_1 := fun _ => Option Bool) (motive_2 := fun _ => Unit)
    (fun b => some b) (fun _ _ => none) (fun _ => none) none (fun _ _ => none) none (fun _ _ _ _ => none) (fun _ _ _ _ => none) none (fun _ => none)
    (fun _ _ _ _ _ => none) (fun _ => none) none none (fun _ _ _ => none) (fun _ _ => none) (fun _ _ => none) (fun _ => none) (fun _ _ _ => none) (fun _ _ _ => none) () (fun _ _ _ _ => ()) a
/-- neither a struct nor a tuple -/
noncomputable def AV.one (a : AV) : Bool :=
  AV.rec (motive_1 := fun _ => Bool) (motive_2 := fun _ => Unit)
    (fun _ => true) (fun _ _ => true) (fun _ => true) true (fun _ _ => true) true (fun _ _ _ _ => true) (fun _ _ _ _ => true) true (fun _ => true)
    (fun _ _ _ _ _ => true) (fun _ => true) true true (fun _ _ _ => true) (fun _ _ => false) (fun _ _ => false) (fun _ => true) (fun _ _ _ => true) (fun _ _ _ => true) () (fun _ _ _ _ => ()) a
noncomputable def natO (a : Option AV) : Option (IntKind × Nat) := Option.rec none AV.nat a
noncomputable def ptrO (a : Option AV) : Option (Nat × Nat) := Option.rec none AV.ptr a
noncomputable def sliO (a : Option AV) : Option (Nat × Nat × Nat) := Option.rec none AV.sli a
noncomputable def booO (a : Option AV) : Option Bool := Option.rec none AV.boo a
structure RowD where
  e : TypeId
  z : Nat → Option AV
  m : Nat
  c : T AV
  ex : Bool
  fm : Bool
noncomputable def rowO (a : Option Blk) : Option RowD :=
  Option.rec none (fun b => Blk.rec (fun t z n c ex mk => some ⟨t, z, n, c, ex, mk⟩) (fun _ _ => none) (fun _ _ _ _ _ _ _ _ => none) none (fun _ _ _ _ => none) b) a
theorem natO_some {a : Option AV} {k : IntKind} {n : Nat} (h : natO a = some (k, n)) : a = some (.i k (.ofNat n)) := by
  cases a with
  | none => cases h
  | some a =>
    cases a <;> first | (cases h; done) | skip
    rename_i k' x
    cases x with
    | ofNat m => injection h with h; injection h with h1 h2; subst h1 h2; rfl
    | negSucc m => cases h
theorem ptrO_some {a : Option AV} {p : Nat × Nat} (h : ptrO a = some p) : a = some (.p p.1 p.2) := by
  cases a with
  | none => cases h
  | some a =>
    cases a <;> first | (cases h; done) | skip
    injection h with h; subst h; rfl
theorem sliO_some {a : Option AV} {p : Nat × Nat × Nat} (h : sliO a = some p) : ∃ c, a = some (.sl p.1 p.2.1 p.2.2 c) := by
  cases a with
  | none => cases h
  | some a =>
    cases a <;> first | (cases h; done) | skip
    injection h with h; subst h; exact ⟨_, rfl⟩
theorem booO_some {a : Option AV} {b : Bool} (h : booO a = some b) : a = some (.b b) := by
  cases a with
  | none => cases h
  | some a =>
    cases a <;> first | (cases h; done) | skip
    injection h with h; subst h; rfl
theorem rowO_some {a : Option Blk} {r : RowD} (h : rowO a = some r) : a = some (.row r.e r.z r.m r.c r.ex r.fm) := by
  cases a with
  | none => cases h
  | some a =>
    cases a <;> first | (cases h; done) | skip
    injection h with h; subst h; rfl
noncomputable def binN (op : BinOp) : IntKind → Nat → Nat → Program → Oper → Env → Nat → Heap → OR :=
  match op with
  | .add => fun k a b P o env n H => natV k (Nat.add a b) n H (evGround P o env n H)
  | .sub => fun k a b P o env n H => Bool.rec (evGround P o env n H) (natV k (Nat.sub a b) n H (evGround P o env n H)) (Nat.ble b a)
  | .mul => fun k a b P o env n H => natV k (Nat.mul a b) n H (evGround P o env n H)
  | .eql => fun _ a b _ _ _ n H => boolV (Nat.beq a b) n H
  | .neq => fun _ a b _ _ _ n H => boolV (Bool.not (Nat.beq a b)) n H
  | .lss => fun _ a b _ _ _ n H => boolV (Nat.blt a b) n H
  | .leq => fun _ a b _ _ _ n H => boolV (Nat.ble a b) n H
  | .gtr => fun _ a b _ _ _ n H => boolV (Nat.blt b a) n H
  | .geq => fun _ a b _ _ _ n H => boolV (Nat.ble b a) n H
  | _ => fun _ _ _ P o env n H => evGround P o env n H
noncomputable def evBinF (P : Program) (o : Oper) (op : BinOp) (t : TypeId) (x y : Operand) (env : Env) (n : Nat) (H : Heap) : OR :=
  Option.rec (evBin P o op t x y env n H) (fun p => Option.rec (evBin P o op t x y env n H) (fun q =>
    Bool.rec (evBin P o op t x y env n H) (binN op p.1 p.2 q.2 P o env n H) (ikEq p.1 q.1)) (natO (opd env y))) (natO (opd env x))
theorem evBinF_eq (P : Program) (o : Oper) (op : BinOp) (t : TypeId) (x y : Operand) (env : Env) (n : Nat) (H : Heap) : evBinF P o op t x y env n H = evBin P o op t x y env n H := by
  unfold evBinF
  cases hx : natO (opd env x) with
  | none => rfl
  | some p =>
    obtain ⟨k, a⟩ := p
    cases hy : natO (opd env y) with
    | none => rfl
    | some q =>
      obtain ⟨k', b⟩ := q
      cases hk : ikEq k k' with
      | false => simp only [hk]
      | true =>
        simp only [hk]
        unfold evBin
        simp only [natO_some hx, natO_some hy, hk]
        cases op <;> rfl
noncomputable def fieldB (P : Program) (s : TypeId) (f : Nat) : Option Nat :=
  match P.underlying s with
  | some (.struct fs) => (match nth fs.toList f with
      | some fl => (match sizeB P fl.type with | some (Nat.succ _) => some fl.offset | _ => none)
      | none => none)
  | _ => none
noncomputable def evFieldAddrF (P : Program) (s : TypeId) (x : Operand) (f : Nat) (env : Env) (n : Nat) (H : Heap) : OR :=
  Option.rec (evFieldAddr P s x f env n H) (fun a => Option.rec (evFieldAddr P s x f env n H) (fun q => frc (Nat.add a.2 q) fun o => .val (.p a.1 o) n H) (fieldB P s f)) (ptrO (opd env x))
theorem evFieldAddrF_eq (P : Program) (s : TypeId) (x : Operand) (f : Nat) (env : Env) (n : Nat) (H : Heap) : evFieldAddrF P s x f env n H = evFieldAddr P s x f env n H := by
  unfold evFieldAddrF
  cases hx : ptrO (opd env x) with
  | none => rfl
  | some a =>
    cases hf : fieldB P s f with
    | none => rfl
    | some q =>
      unfold fieldB at hf
      unfold evFieldAddr
      simp only [ptrO_some hx]
      split at hf
      · rename_i fs hu
        split at hf
        · rename_i fl hn
          split at hf
          · rename_i k hs
            injection hf with hf; subst hf
            simp only [hu, hn, hs]
          · cases hf
        · cases hf
      · cases hf
noncomputable def sliceB (P : Program) (t : TypeId) : Option Nat :=
  match P.underlying t with
  | some (.slice e) => sizeB P e
  | _ => none
noncomputable def evIndexAddrF (P : Program) (t : TypeId) (x ix : Operand) (env : Env) (n : Nat) (H : Heap) : OR :=
  Option.rec (evIndexAddr P t x ix env n H) (fun a => Option.rec (evIndexAddr P t x ix env n H) (fun i => Option.rec (evIndexAddr P t x ix env n H) (fun s =>
    Bool.rec (evIndexAddr P t x ix env n H) (frc (Nat.add a.2.1 (Nat.mul i.2 s)) fun o => .val (.p a.1 o) n H) (Nat.blt i.2 a.2.2)) (sliceB P t)) (natO (opd env ix))) (sliO (opd env x))
theorem evIndexAddrF_eq (P : Program) (t : TypeId) (x ix : Operand) (env : Env) (n : Nat) (H : Heap) : evIndexAddrF P t x ix env n H = evIndexAddr P t x ix env n H := by
  unfold evIndexAddrF
  cases hx : sliO (opd env x) with
  | none => rfl
  | some a =>
    cases hi : natO (opd env ix) with
    | none => rfl
    | some i =>
      obtain ⟨k, i⟩ := i
      cases hs : sliceB P t with
      | none => rfl
      | some s =>
        cases hb : Nat.blt i a.2.2 with
        | false => simp only [hb]
        | true =>
          simp only [hb]
          obtain ⟨c, hx⟩ := sliO_some hx
          unfold sliceB at hs
          split at hs
          · rename_i e hu
            unfold evIndexAddr
            simp only [hx, natO_some hi, hu, hs, hb]
          · cases hs
noncomputable def evLoadF (P : Program) (t : TypeId) (x : Operand) (env : Env) (n : Nat) (H : Heap) : OR :=
  Option.rec (evLoad P t x env n H) (fun a => Option.rec (evLoad P t x env n H) (fun r => Option.rec (evLoad P t x env n H) (fun b =>
    Bool.rec (Option.rec (evLoad P t x env n H) (fun v => .val v n H) (cellAt r.z r.m r.c a.2)) (evLoad P t x env n H) b) (isAggB P t)) (rowO (Q8.get H a.1))) (ptrO (opd env x))
theorem evLoadF_eq (P : Program) (t : TypeId) (x : Operand) (env : Env) (n : Nat) (H : Heap) : evLoadF P t x env n H = evLoad P t x env n H := by
  unfold evLoadF
  cases hx : ptrO (opd env x) with
  | none => rfl
  | some a =>
    cases hr : rowO (Q8.get H a.1) with
    | none => simp only [hr]
    | some r =>
      simp only [hr]
      cases hb : isAggB P t with
      | none => rfl
      | some b =>
        cases b with
        | true => rfl
        | false =>
          cases hc : cellAt r.z r.m r.c a.2 with
          | none => rfl
          | some v =>
            unfold evLoad
            simp only [ptrO_some hx, rowO_some hr, hb, hc]
noncomputable def oneB (P : Program) (t : TypeId) : Bool := match sizeB P t with | some 1 => true | _ => false
noncomputable def evStoreF (P : Program) (t : TypeId) (x v : Operand) (env : Env) (n : Nat) (H : Heap) : OR :=
  Option.rec (evStore P t x v env n H) (fun a => Option.rec (evStore P t x v env n H) (fun u => Option.rec (evStore P t x v env n H) (fun r =>
    Bool.rec (evStore P t x v env n H) (Bool.rec (evStore P t x v env n H) (Bool.rec (evStore P t x v env n H)
      (T.set (some u) r.c a.2 fun c => Q8.set (some (.row r.e r.z r.m c r.ex r.fm)) H a.1 fun H => .val undefA n H) (Nat.blt a.2 r.m)) (oneB P t)) u.one) (rowO (Q8.get H a.1))) (opd env v)) (ptrO (opd env x))
theorem frc_same {β : Type} (x : Nat) (c : β) : frc x (fun _ => c) = c := by cases x <;> rfl
theorem evStoreF_eq (P : Program) (t : TypeId) (x v : Operand) (env : Env) (n : Nat) (H : Heap) : evStoreF P t x v env n H = evStore P t x v env n H := by
  unfold evStoreF
  cases hx : ptrO (opd env x) with
  | none => rfl
  | some a =>
    cases hv : opd env v with
    | none => rfl
    | some u =>
      cases hr : rowO (Q8.get H a.1) with
      | none => simp only [hr]
      | some r =>
        simp only [hr]
        cases ho : u.one with
        | false => rfl
        | true =>
          cases hs : oneB P t with
          | false => rfl
          | true =>
            cases hb : Nat.blt a.2 r.m with
            | false => simp only
            | true =>
              simp only
              have hs1 : sizeB P t = some 1 := by
                unfold oneB at hs
                split at hs
                · assumption
                · cases hs
              have hb' : Nat.ble (Nat.add a.2 1) r.m = true := hb
              unfold evStore
              simp only [ptrO_some hx, hv, rowO_some hr, hs1]
              have key : ∀ (u : AV), (T.set (some u) r.c a.2 fun c => Q8.set (some (.row r.e r.z r.m c r.ex r.fm)) H a.1 fun H => OR.val undefA n H) = putCells [u] r.c a.2 (fun c => Q8.set (some (.row r.e r.z r.m c r.ex r.fm)) H a.1 fun H => OR.val undefA n H) := fun u => by
                show _ = T.set (some u) r.c a.2 (fun c => frc (Nat.succ a.2) fun _ => Q8.set (some (.row r.e r.z r.m c r.ex r.fm)) H a.1 fun H => OR.val undefA n H)
                simp only [frc_same]
              rw [key]
              cases u <;> first | (cases ho; done) | (simp only [AV.cells, hb']; rfl)
noncomputable def evNilCheckF (x : Operand) (env : Env) (n : Nat) (H : Heap) : OR :=
  Option.rec (evNilCheck x env n H) (fun a => .val (.p a.1 a.2) n H) (ptrO (opd env x))
theorem evNilCheckF_eq (x : Operand) (env : Env) (n : Nat) (H : Heap) : evNilCheckF x env n H = evNilCheck x env n H := by
  unfold evNilCheckF
  cases hx : ptrO (opd env x) with
  | none => rfl
  | some a => unfold evNilCheck; simp only [ptrO_some hx]
noncomputable def convB (P : Program) (s d : TypeId) : Option IntKind :=
  match P.underlying s, P.underlying d with
  | some (.int _), some (.int k) => some k
  | _, _ => none
noncomputable def evConvertF (P : Program) (o : Oper) (s d : TypeId) (x : Operand) (env : Env) (n : Nat) (H : Heap) : OR :=
  Option.rec (evConvert P o s d x env n H) (fun k => Option.rec (evConvert P o s d x env n H) (fun a => natV k a.2 n H (evGround P o env n H)) (natO (opd env x))) (convB P s d)
theorem evConvertF_eq (P : Program) (o : Oper) (s d : TypeId) (x : Operand) (env : Env) (n : Nat) (H : Heap) : evConvertF P o s d x env n H = evConvert P o s d x env n H := by
  unfold evConvertF
  cases hk : convB P s d with
  | none => rfl
  | some k =>
    cases hx : natO (opd env x) with
    | none => rfl
    | some a =>
      obtain ⟨j, a⟩ := a
      unfold convB at hk
      split at hk
      · rename_i h1 h2
        injection hk with hk; subst hk
        unfold evConvert
        simp only [h1, h2, natO_some hx]
      · cases hk
noncomputable def evPickF (c a b : Operand) (env : Env) (n : Nat) (H : Heap) : OR :=
  Option.rec (evPick c a b env n H) (fun q => Bool.rec (evMove b env n H) (evMove a env n H) q) (booO (opd env c))
theorem evPickF_eq (c a b : Operand) (env : Env) (n : Nat) (H : Heap) : evPickF c a b env n H = evPick c a b env n H := by
  unfold evPickF
  cases hx : booO (opd env c) with
  | none => rfl
  | some q => unfold evPick; simp only [booO_some hx]; cases q <;> rfl
noncomputable def evOp (op : Op) : Program → Oper → Env → Nat → Heap → OR :=
  Op.rec (motive := fun _ => Program → Oper → Env → Nat → Heap → OR)
    (fun x => fun _ _ env n H => vo (evMove x env n H))
    (fun x => fun _ _ env n H => vo (evMove x env n H))
    (fun c a b => fun _ _ env n H => vo (evPickF c a b env n H))
    (fun t => fun P _ env n H => vo (evAlloc P t env n H))
    (fun t x => fun P _ env n H => vo (evBox P t x env n H))
    (fun t ps => fun P _ env n H => vo (evBuild P t ps.toList env n H))
    (fun t m ps => fun P _ env n H => vo (evBuildSlice P t m ps.toList env n H))
    (fun _ _ _ _ => fun _ _ _ _ _ => .no 106)
    (fun t a => fun P _ env n H => vo (evLoadF P t a env n H))
    (fun t a v => fun P _ env n H => vo (evStoreF P t a v env n H))
    (fun _ => fun _ _ _ _ _ => .no 106)
    (fun _ => fun _ _ _ _ _ => .no 106)
    (fun x => fun _ _ env n H => vo (evNilCheckF x env n H))
    (fun op t x y _ => fun P o env n H => vo (evBinF P o op t x y env n H))
    (fun _ _ _ => fun P o env n H => vo (evGround P o env n H))
    (fun s d x => fun P o env n H => vo (evConvertF P o s d x env n H))
    (fun _ _ => fun _ _ _ _ _ => .no 106)
    (fun t x => fun P _ env n H => vo (evMakeInterface P t x env n H))
    (fun f a c => fun _ _ env n H => vo (evMakeFunc f a.toList c.toList env n H))
    (fun t r => fun P _ env n H => vo (evMakeMap P t r env n H))
    (fun _ _ => fun _ _ _ _ _ => .no 106)
    (fun t l c => fun P _ env n H => vo (evMakeSlice P t l c env n H))
    (fun t x lo hi mx => fun P o env n H => vo (evSlice P o t x lo hi mx env n H))
    (fun s x f => fun P _ env n H => vo (evFieldAddrF P s x f env n H))
    (fun t x f => fun P _ env n H => vo (evField P t x f env n H))
    (fun t x ix => fun P _ env n H => vo (evIndexAddrF P t x ix env n H))
    (fun t x ix => fun P o env n H => vo (evIndex P o t x ix env n H))
    (fun t m k ok => fun P _ env n H => vo (evLookup P t m k ok env n H))
    (fun t m k x => fun P _ env n H => vo (evMapUpdate P t m k x env n H))
    (fun t m k => fun P _ env n H => vo (evMapEntry P t m k env n H))
    (fun _ m s x => fun _ _ env n H => vo (evEntryStore m s x env n H))
    (fun t x => fun P _ env n H => vo (evMapRange P t x env n H))
    (fun it str => fun _ _ env n H => vo (evMapNext it str env n H))
    (fun it => fun _ _ env n H => vo (evItEntry it env n H))
    (fun _ _ _ _ => fun _ _ _ _ _ => .no 106)
    (fun t ix => fun _ _ env n H => vo (evExtract t ix env n H))
    (fun c => fun P o => evCall P o c)
    (fun _ => fun _ _ _ _ _ => .no 106)
    (fun c _ _ env _ _ => evDefer c env)
    (fun _ => fun _ _ _ _ _ => .no 106)
    (fun _ _ => fun _ _ _ _ _ => .no 106)
    (fun _ _ _ => fun _ _ _ _ _ => .no 106)
    (fun _ _ => fun _ _ _ _ _ => .no 106)
    op
theorem evOp_eq (op : Op) (P : Program) (o : Oper) (env : Env) (n : Nat) (H : Heap) : evOp op P o env n H = evOpS op P o env n H := by
  cases op <;> first | rfl | skip
  · exact congrArg vo (evPickF_eq ..)
  · exact congrArg vo (evLoadF_eq ..)
  · exact congrArg vo (evStoreF_eq ..)
  · exact congrArg vo (evNilCheckF_eq ..)
  · exact congrArg vo (evBinF_eq ..)
  · exact congrArg vo (evConvertF_eq ..)
  · exact congrArg vo (evFieldAddrF_eq ..)
  · exact congrArg vo (evIndexAddrF_eq ..)
end Go.Sy
namespace Go.Sy
open Go
/-! ### Equality of abstract values (where it says yes) -/
noncomputable def eqInt (a b : Int) : Bool :=
  match a, b with
  | .ofNat a, .ofNat b => Nat.beq a b
  | .negSucc a, .negSucc b => Nat.beq a b
  | _, _ => false
noncomputable def eqBytes (l m : List UInt8) : Bool :=
  List.rec (motive := fun _ => List UInt8 → Bool) (fun m => match m with | [] => true | _ => false) (fun a _ ih m => match m with | [] => false | b :: r => (match Nat.beq a.toNat b.toNat with | true => ih r | false => false)) l m
noncomputable def eq1 (a b : AV) : Bool :=
  match a, b with
  | .b x, .b y => x == y
  | .i j x, .i k y => (match ikEq j k with | true => eqInt x y | false => false)
  | .s l, .s m => eqBytes l m
  | .p0, .p0 => true
  | .p x o, .p y q => (match Nat.beq x y with | true => Nat.beq o q | false => false)
  | .sl0, .sl0 => true
  | .se x o d u, .se y q e v => (match Nat.beq x y, Nat.beq o q, Nat.beq d e with | true, true, true => Nat.beq u v | _, _, _ => false)
  | .sl x o n c, .sl y q m d => (match Nat.beq x y, Nat.beq o q, Nat.beq n m with
      | true, true, true => (match c, d with | .k c, .k d => Nat.beq c d | .u c, .u d => Nat.beq c d | _, _ => false)
      | _, _, _ => false)
  | .m0, .m0 => true
  | .m x, .m y => Nat.beq x y
  | .yl x, .yl y => Nat.beq x y
  | .fn0, .fn0 => true
  | .fn (.func f) [] [], .fn (.func g) [] [] => Nat.beq f g
  | .if0, .if0 => true
  | _, _ => false
noncomputable def eq1s (l m : List AV) : Bool :=
  List.rec (motive := fun _ => List AV → Bool) (fun m => match m with | [] => true | _ => false) (fun a _ ih m => match m with | [] => false | b :: r => (match eq1 a b with | true => ih r | false => false)) l m
noncomputable def eq2 (a b : AV) : Bool :=
  match a, b with
  | .agg l, .agg m => eq1s l m
  | _, _ => eq1 a b
noncomputable def eq2s (l m : List AV) : Bool :=
  List.rec (motive := fun _ => List AV → Bool) (fun m => match m with | [] => true | _ => false) (fun a _ ih m => match m with | [] => false | b :: r => (match eq2 a b with | true => ih r | false => false)) l m
noncomputable def eqV (a b : AV) : Bool :=
  match a, b with
  | .agg l, .agg m => eq1s l m
  | .tup l, .tup m => eq2s l m
  | .fn (.func f) a c, .fn (.func g) b d => (match Nat.beq f g, eq1s a b with | true, true => eq1s c d | _, _ => false)
  | _, _ => eq1 a b
/-! ### What is known of a region that draws its order, without running it -/
/-- chain: calls and whatever changes memory · new: allocations · read: whatever looks at memory · pure -/
inductive K | chain | new | read | pure
def kindOf (P : Program) : Op → K
  | .move _ | .assign _ | .pick .. | .build .. | .fieldAddr .. | .field .. | .indexAddr .. | .index .. | .slice .. | .unOp .. | .nilCheck _ | .makeInterface .. | .makeFunc .. | .extract .. => .pure
  | .binOp op t .. => (match op with
      | .eql | .neq => (match P.underlying t with | some (.pointer _) => .read | some _ => .pure | none => .chain)
      | _ => .pure)
  | .alloc _ | .box .. | .buildSlice .. | .makeMap .. | .makeSlice .. => .new
  | .load .. | .lookup .. => .read
  | .convert s d _ => (match P.underlying s, P.underlying d with
      | some (.int _), _ => .pure
      | some .string, some .string => .pure
      | some .string, some (.slice _) => .new
      | some (.slice _), some .string => .read
      | some (.slice _), some (.slice _) => .read
      | _, _ => .chain)
  | .call { callee := .builtin b, argTypes, .. } => (match b with
      | .max | .min | .cap => .pure
      | .len => (match argTypes.toList with | t :: _ => (match P.underlying t with | some (.map _ _) => .read | some _ => .pure | none => .chain) | [] => .chain)
      | _ => .chain)
  | _ => .chain
inductive RI | chain | new | read (lo hi : Nat) | pure
def K.big : K → Bool
  | .chain => true | .new => true | _ => false
/-- the masks of what comes before -/
noncomputable def masks (ops : List Oper) : List Nat → List Nat :=
  List.rec (motive := fun _ => List Nat → List Nat) (fun acc => acc)
    (fun o _ ih acc => ih (acc ++ [o.after.toList.foldl (fun s e => if Region.binds .any e then s ||| 2 ^ e.on ||| (nth acc e.on).getD 0 else s) 0])) ops
noncomputable def edgesOk (ops : List Oper) : Nat → Bool :=
  List.rec (motive := fun _ => Nat → Bool) (fun _ => true) (fun o _ ih i => o.after.toList.all (fun e => !Region.binds .any e || Nat.blt e.on i) && ih (Nat.succ i)) ops
def tmpsOf (l : List Operand) : List Tmp := l.filterMap fun | .tmp t => some t | _ => none
noncomputable def names (all : List Oper) (o : Oper) : List Tmp :=
  o.dst.toList ++ tmpsOf o.op.operands.toList ++ (match o.guard with | some (g, _) => (match nth all g with | some x => x.dst.toList | none => []) | none => [])
noncomputable def writers (ops : List Oper) : Nat → T (List Nat) → T (List Nat) :=
  List.rec (motive := fun _ => Nat → T (List Nat) → T (List Nat)) (fun _ t => t)
    (fun o _ ih i t => match o.dst with | none => ih (Nat.succ i) t | some d => T.set (some (i :: (t.get d).getD [])) t d fun t => ih (Nat.succ i) t) ops
def cmpB (ms : List Nat) (i j : Nat) : Bool := Nat.beq i j || (Nat.blt i j && ((ms[j]?).getD 0).testBit i) || (Nat.blt j i && ((ms[i]?).getD 0).testBit j)
noncomputable def tmpsOk (all : List Oper) (ms : List Nat) (w : T (List Nat)) (ops : List Oper) : Nat → Bool :=
  List.rec (motive := fun _ => Nat → Bool) (fun _ => true)
    (fun o _ ih j => (names all o).all (fun t => ((w.get t).getD []).all fun i => cmpB ms i j) && ih (Nat.succ j)) ops
/-- are all big operations below 'to' among those of the mask? -/
noncomputable def bigIn (ks : List K) (m : Nat) : Nat → Nat → Bool :=
  List.rec (motive := fun _ => Nat → Nat → Bool) (fun _ _ => true)
    (fun k _ ih i to => match Nat.blt i to with | true => (!k.big || m.testBit i) && ih (Nat.succ i) to | false => true) ks
/-- one above the last big operation of the mask -/
noncomputable def loOf (ks : List K) (m : Nat) : Nat → Nat → Nat :=
  List.rec (motive := fun _ => Nat → Nat → Nat) (fun _ lo => lo) (fun k _ ih i lo => ih (Nat.succ i) (match k.big && m.testBit i with | true => Nat.succ i | false => lo)) ks
/-- the first big operation that waits for j; else the region's size -/
noncomputable def hiOf (ks : List K) (j : Nat) : List Nat → Nat → Nat :=
  List.rec (motive := fun _ => List Nat → Nat → Nat) (fun _ i => i)
    (fun k _ ih ms i => match ms with | [] => i | m :: r => (match k.big && m.testBit j with | true => i | false => ih r (Nat.succ i))) ks
noncomputable def infos (ks : List K) (ms : List Nat) (todo : List (K × Nat)) : Nat → Option (List RI) :=
  List.rec (motive := fun _ => Nat → Option (List RI)) (fun _ => some [])
    (fun x _ ih j => match x.1 with
      | .chain => (match bigIn ks x.2 0 j with | true => (match ih (Nat.succ j) with | some l => some (.chain :: l) | none => none) | false => none)
      | .new => (match ih (Nat.succ j) with | some l => some (.new :: l) | none => none)
      | .pure => (match ih (Nat.succ j) with | some l => some (.pure :: l) | none => none)
      | .read => (match bigIn ks x.2 0 (loOf ks x.2 0 0) with
          | true => (match ih (Nat.succ j) with | some l => some (.read (loOf ks x.2 0 0) (hiOf ks j ms 0) :: l) | none => none)
          | false => none)) todo
noncomputable def regInfo (P : Program) (ops : List Oper) : Option (List RI) :=
  match edgesOk ops 0 && Region.noSelect ⟨ops⟩ && tmpsOk ops (masks ops []) (writers ops 0 .e) ops 0 with
  | true => infos (ops.map fun o => kindOf P o.op) (masks ops []) ((ops.map fun o => kindOf P o.op).zip (masks ops [])) 0
  | false => none
/-! ### Code -/
inductive Ext | nrm | ex (id : Nat) | rt | go (l : Nat)
/-- what waits for the function's end: a mark of a range over a function, a deferred call -/
inductive Df | mark (x : Nat) | call (f : FuncId) (args : List AV)
inductive CR | ok (e : Ext) (env : Env) (ms : List Df) (n : Nat) (H : Heap) | er (l : List Nat)
inductive VR | ok (v : AV) (n : Nat) (H : Heap) | er (l : List Nat)
inductive SR | ok (env : Env) (n : Nat) (H : Heap) | er (l : List Nat)
/-- code, the loop whose round it is (if any), the number of temporaries, .. -/
abbrev EC := Code → Option Nat → Nat → Env → List Df → Nat → Heap → CR
abbrev EF := FuncId → List AV → Nat → Heap → VR
noncomputable def bindP (N : Nat) (ps : List Tmp) : List AV → Env → (Env → VR) → VR :=
  List.rec (motive := fun _ => List AV → Env → (Env → VR) → VR) (fun as env k => match as with | [] => k env | _ => .er [200])
    (fun t _ ih as env k => match as with
      | [] => .er [201]
      | a :: r => (match Nat.blt t N with | true => env.put t a fun env => ih r env k | false => .er [202])) ps
def jumpOf : Ext → Option Code
  | .nrm => none
  | .ex id => some (.exit id)
  | .rt => some .ret
  | .go l => some (.goto l)
noncomputable def evRound (ec : EC) (y : Nat) (args : List AV) (n : Nat) (H : Heap) : VR :=
  match Q8.get H y with
  | some (.loop _ _ ps asg body env N _) => bindP N ps args env fun env =>
    (match ec asg (some y) N env [] n H with
    | .ok .nrm env [] n H => (match Q8.get H y with
        | some (.loop .ready pe ps a b e N' d) => Q8.set (some (.loop .busy pe ps a b e N' d)) H y fun H =>
          (match ec body (some y) N env [] n H with
          | .ok x _ [] n H => (match Q8.get H y with
              | some (.loop _ _ ps a b e N d) => Q8.set (some (.loop (match x with | .nrm => .ready | _ => .done) (jumpOf x) ps a b e N d)) H y fun H =>
                (match x with | .nrm => .ok (.b true) n H | _ => .ok (.b false) n H)
              | _ => .er [203])
          | .ok _ _ _ _ _ => .er [204]
          | .er l => .er l)
        | _ => .er [205])
    | .ok _ _ _ _ _ => .er [206]
    | .er l => .er l)
  | _ => .er [207]
noncomputable def putK {β : Type} (dst : Option Tmp) (N : Nat) (v : AV) (env : Env) (er : List Nat → β) (k : Env → β) : β :=
  Option.rec (k env) (fun d => Bool.rec (er [208]) (env.put d v k) (Nat.blt d N)) dst
noncomputable def putD (dst : Option Tmp) (N : Nat) (v : AV) (env : Env) (n : Nat) (H : Heap) : SR := putK dst N v env .er fun env => .ok env n H
/-- Is an operation with a guard wanted? -/
noncomputable def wantedG (all : List Oper) (g : Nat × Bool) (env : Env) : Option Bool :=
  match nth all g.1 with
  | some x => (match x.dst with
      | some t => (match env.get t with
          | some (.b b) => some (b == g.2)
          | some (.tup _) => some false
          | _ => none)
      | none => some false)
  | none => some false
noncomputable def wantedA (all : List Oper) (g : Option (Nat × Bool)) (env : Env) : Option Bool :=
  Option.rec (some true) (fun g => wantedG all g env) g
noncomputable def evWanted (P : Program) (ec : EC) (ef : EF) (N : Nat) (o : Oper) (env : Env) (n : Nat) (H : Heap) : SR :=
  match evOp o.op P o env n H with
  | .val v n H => putD o.dst N v env n H
  | .call g args => (match ef g args n H with | .ok v n H => putD o.dst N v env n H | .er l => .er l)
  | .yld y args => (match evRound ec y args n H with | .ok v n H => putD o.dst N v env n H | .er l => .er l)
  | .dfr _ _ => .er [235]
  | .no k => .er [k]
inductive DR | ok (env : Env) (ms : List Df) (n : Nat) (H : Heap) | er (l : List Nat)
noncomputable def evGo (P : Program) (ec : EC) (ef : EF) (rd : Option Nat) (N : Nat) (o : Oper) (ih : Env → List Df → Nat → Heap → DR) (env : Env) (ms : List Df) (n : Nat) (H : Heap) : DR :=
  OR.rec
    (fun v n H => putK o.dst N v env .er fun env => ih env ms n H)
    (fun g args => VR.rec (fun v n H => putK o.dst N v env .er fun env => ih env ms n H) (fun l => .er l) (ef g args n H))
    (fun y args => VR.rec (fun v n H => putK o.dst N v env .er fun env => ih env ms n H) (fun l => .er l) (evRound ec y args n H))
    (fun f args => Option.rec (putK o.dst N undefA env .er fun env => ih env (.call f args :: ms) n H) (fun _ => .er [233]) rd)
    (fun k => .er [k])
    (evOp o.op P o env n H)
noncomputable def evSkip (N : Nat) (o : Oper) (ih : Env → List Df → Nat → Heap → DR) (env : Env) (ms : List Df) (n : Nat) (H : Heap) : DR :=
  putK o.dst N undefA env .er fun env => ih env ms n H
noncomputable def evOps (P : Program) (ec : EC) (ef : EF) (rd : Option Nat) (N : Nat) (all : List Oper) (ops : List Oper) : Env → List Df → Nat → Heap → DR :=
  List.rec (motive := fun _ => Env → List Df → Nat → Heap → DR) (fun env ms n H => .ok env ms n H)
    (fun o _ ih env ms n H => Option.rec (evGo P ec ef rd N o ih env ms n H)
      (fun g => Option.rec (.er [209]) (fun w => Bool.rec (evSkip N o ih env ms n H) (evGo P ec ef rd N o ih env ms n H) w) (wantedG all g env)) o.guard) ops
/-- A reading operation that was carried out: with these temporaries it gave v; at whatever snapshot of its window it must. -/
structure Rd where
  o : Oper
  env : Env
  v : AV
  lo : Nat
  hi : Nat
noncomputable def snapsOk (P : Program) (r : Rd) (snaps : List (Nat × Heap)) : Bool :=
  List.rec true (fun s _ ih => match Nat.ble r.lo s.1 && Nat.ble s.1 r.hi with
    | true => (match evOp r.o.op P r.o r.env 0 s.2 with
        | .val v _ _ => (match eqV r.v v with | true => ih | false => false)
        | _ => false)
    | false => ih) snaps
noncomputable def rdsOk (P : Program) (snaps : List (Nat × Heap)) (l : List Rd) : Bool :=
  List.rec true (fun r _ ih => match snapsOk P r snaps with | true => ih | false => false) l
noncomputable def evDrawn (P : Program) (ec : EC) (ef : EF) (N : Nat) (all : List Oper) (ops : List Oper) : List RI → Nat → List (Nat × Heap) → List Rd → Env → Nat → Heap → SR :=
  List.rec (motive := fun _ => List RI → Nat → List (Nat × Heap) → List Rd → Env → Nat → Heap → SR)
    (fun _ _ snaps rds env n H => match rdsOk P snaps rds with | true => .ok env n H | false => .er [210])
    (fun o _ ih is i snaps rds env n H => match is with
      | [] => .er [211]
      | x :: is => (match wantedA all o.guard env with
        | some false => (match putD o.dst N undefA env n H with
            | .ok env n H => (match x with
                | .pure => ih is (Nat.succ i) snaps rds env n H
                | .read _ _ => ih is (Nat.succ i) snaps rds env n H
                | _ => ih is (Nat.succ i) ((Nat.succ i, H) :: snaps) rds env n H)
            | .er l => .er l)
        | some true => (match x with
          | .pure => (match evOp o.op P o env n H with
              | .val v n H => (match putD o.dst N v env n H with | .ok env n H => ih is (Nat.succ i) snaps rds env n H | .er l => .er l)
              | .no k => .er [k, 212]
              | _ => .er [212])
          | .read lo hi => (match evOp o.op P o env n H with
              | .val v n H => (match putD o.dst N v env n H with | .ok env' n H => ih is (Nat.succ i) snaps (⟨o, env, v, lo, hi⟩ :: rds) env' n H | .er l => .er l)
              | .no k => .er [k, 213]
              | _ => .er [213])
          | .new => (match evOp o.op P o env n H with
              | .val v n H => (match putD o.dst N v env n H with | .ok env n H => ih is (Nat.succ i) ((Nat.succ i, H) :: snaps) rds env n H | .er l => .er l)
              | .no k => .er [k, 214]
              | _ => .er [214])
          | .chain => (match evWanted P ec ef N o env n H with
              | .ok env n H => ih is (Nat.succ i) ((Nat.succ i, H) :: snaps) rds env n H
              | .er l => .er l))
        | none => .er [215])) ops
noncomputable def evRegion (P : Program) (ec : EC) (ef : EF) (rd : Option Nat) (N : Nat) (id : Nat) (ops : List Oper) (draw : Bool) (env : Env) (ms : List Df) (n : Nat) (H : Heap) : CR :=
  match draw with
  | false => (match evOps P ec ef rd N ops ops env.fresh ms n H with | .ok env ms n H => .ok .nrm env ms n H | .er l => .er (id :: l))
  | true => (match regInfo P ops with
      | some is => (match evDrawn P ec ef N ops ops is 0 [(0, H)] [] env.fresh n H with | .ok env n H => .ok .nrm env ms n H | .er l => .er (id :: l))
      | none => .er [id, 216])
noncomputable def evRange (P : Program) (ec : EC) (ef : EF) (f : Operand) (ps : List Tmp) (asg body : Code) (rd : Option Nat) (N : Nat) (env : Env) (ms : List Df) (n : Nat) (H : Heap) : CR :=
  let go : Nat → List Df → Nat → Heap → CR := fun d ms n H =>
    Q8.set (some (.loop .ready none ps asg body env N d)) H n fun H => frc (Nat.succ n) fun n' =>
    (match opd env f with
    | some (.fn (.func g) a c) => frcL (a ++ (.yl n) :: c) fun args =>
      (match callable P g with
      | none => .er [237]
      | some _ => (match ef g args n' H with
        | .ok _ m H => (match Q8.get H n with
            | some (.loop .busy _ _ _ _ _ _ _) => .er [217]
            | some (.loop _ pe _ _ _ _ _ _) => Q8.set none H n fun H => (match pe with
                | none => .ok .nrm env ms m H
                | some c => ec c rd N env ms m H)
            | _ => .er [218])
        | .er l => .er (g :: l)))
    | _ => .er [219])
  match rd with
  | none => Q8.set (some .defd) H n fun H => frc (Nat.succ n) fun n' => go n (.mark n :: ms) n' H
  | some y => (match Q8.get H y with
      | some (.loop _ _ _ _ _ _ _ d) => go d ms n H
      | _ => .er [220])
noncomputable def evSeq (ec : EC) (a b : Code) (rd : Option Nat) (N : Nat) (env : Env) (ms : List Df) (n : Nat) (H : Heap) : CR :=
  CR.rec (fun e env ms n H => Ext.rec (ec b rd N env ms n H) (fun id => .ok (.ex id) env ms n H) (.ok .rt env ms n H) (fun l => .ok (.go l) env ms n H) e) (fun l => .er l) (ec a rd N env ms n H)
noncomputable def evCond (ec : EC) (c : Operand) (a b : Code) (rd : Option Nat) (N : Nat) (env : Env) (ms : List Df) (n : Nat) (H : Heap) : CR :=
  Option.rec (.er [221]) (fun x => Bool.rec (ec b rd N env ms n H) (ec a rd N env ms n H) x) (booO (opd env c))
noncomputable def evBlock (ec : EC) (id : Nat) (a : Code) (rd : Option Nat) (N : Nat) (env : Env) (ms : List Df) (n : Nat) (H : Heap) : CR :=
  match ec a rd N env ms n H with
  | .ok e env ms n H => (match e with | .nrm => .ok .nrm env ms n H | .ex j => Bool.rec (.ok (.ex j) env ms n H) (.ok .nrm env ms n H) (Nat.beq j id) | .rt => .ok .rt env ms n H | .go l => .ok (.go l) env ms n H)
  | .er l => .er l
noncomputable def evLoop (ec : EC) (a : Code) (rd : Option Nat) (N : Nat) (env : Env) (ms : List Df) (n : Nat) (H : Heap) : CR :=
  match ec a rd N env ms n H with
  | .ok e env ms n H => (match e with | .nrm => ec (.loop a) rd N env ms n H | .ex id => .ok (.ex id) env ms n H | .rt => .ok .rt env ms n H | .go l => .ok (.go l) env ms n H)
  | .er l => .er l
noncomputable def evScope (ec : EC) (b : Code) (fuel : Nat) : Code → Option Nat → Nat → Env → List Df → Nat → Heap → CR :=
  Nat.rec (motive := fun _ => Code → Option Nat → Nat → Env → List Df → Nat → Heap → CR) (fun _ _ _ _ _ _ _ => .er [222])
    (fun _ ih c rd N env ms n H => match ec c rd N env ms n H with
      | .ok e env ms n H => (match e with
          | .go l => (match findLabel b l with | some c => ih c rd N env ms n H | none => .ok (.go l) env ms n H)
          | .nrm => .ok .nrm env ms n H
          | .ex id => .ok (.ex id) env ms n H
          | .rt => .ok .rt env ms n H)
      | .er l => .er l) fuel
noncomputable def evExt (e : Ext) (_rd : Option Nat) (_N : Nat) (env : Env) (ms : List Df) (n : Nat) (H : Heap) : CR := .ok e env ms n H
noncomputable def evFail (k : Nat) (_rd : Option Nat) (_N : Nat) (_env : Env) (_ms : List Df) (_n : Nat) (_H : Heap) : CR := .er [k]
noncomputable def evReg (P : Program) (ec : EC) (ef : EF) (id : Nat) (ops : List Oper) (draw : Bool) (rd : Option Nat) (N : Nat) (env : Env) (ms : List Df) (n : Nat) (H : Heap) : CR := evRegion P ec ef rd N id ops draw env ms n H
noncomputable def stepC (c : Code) : Program → EC → EF → Option Nat → Nat → Env → List Df → Nat → Heap → CR :=
  match c with
  | .skip => fun _ _ _ => evExt .nrm
  | .label _ => fun _ _ _ => evExt .nrm
  | .region id ops draw => fun P ec ef => evReg P ec ef id ops.toList draw
  | .seq a b => fun _ ec _ => evSeq ec a b
  | .cond c a b => fun _ ec _ => evCond ec c a b
  | .block id a => fun _ ec _ => evBlock ec id a
  | .loop a => fun _ ec _ => evLoop ec a
  | .rangeFunc f ps asg body => fun P ec ef => evRange P ec ef f ps.toList asg body
  | .exit id => fun _ _ _ => evExt (.ex id)
  | .ret => fun _ _ _ => evExt .rt
  | .scope b => fun _ ec _ => evScope ec b 1000000 b
  | .goto l => fun _ _ _ => evExt (.go l)
  | .refuse _ => fun _ _ _ => evFail 224
/-- The results of a function. -/
noncomputable def resOf (P : Program) (env : Env) (n : Nat) (H : Heap) (rs : List ResultVar) : Option (List AV) :=
  List.rec (some []) (fun r _ ih => match (match r with
      | .tmp t => env.get t
      | .cell t ty => (match env.get t with | some (.p _ _) => (match evLoad P ty (.tmp t) env n H with | .val v _ _ => some v | _ => none) | _ => none)) with
    | some v => (match ih with | some l => some (v :: l) | none => none)
    | none => none) rs
noncomputable def args0 (l : List AV) : Nat → Env → (Env → VR) → VR :=
  List.rec (motive := fun _ => Nat → Env → (Env → VR) → VR) (fun _ e k => k e) (fun a _ ih i e k => e.put i a fun e => ih (Nat.succ i) e k) l
/-- Which temporaries does a region read that it has not written itself? -/
noncomputable def readsOf (_all : List Oper) (ops : List Oper) : Nat → Nat → Nat :=
  List.rec (motive := fun _ => Nat → Nat → Nat) (fun _ r => r)
    (fun o _ ih w r => ih (match o.dst with | some d => Nat.lor w (Nat.shiftLeft 1 d) | none => w)
      ((tmpsOf o.op.operands.toList).foldl (fun r t => match Nat.beq (Nat.land (Nat.shiftRight w t) 1) 1 with | true => r | false => Nat.lor r (Nat.shiftLeft 1 t)) r)) ops
noncomputable def handed : Code → Nat → Nat
  | .region _ ops _, r => readsOf ops.toList ops.toList 0 r
  | .seq a b, r => handed b (handed a r)
  | .cond _ a b, r => handed b (handed a r)
  | .block _ a, r => handed a r
  | .loop a, r => handed a r
  | .rangeFunc _ _ a b, r => handed b (handed a r)
  | .scope a, r => handed a r
  | _, r => r
noncomputable def vars (fn : Func) : Nat :=
  (fn.results.toList).foldl (fun r v => match v with | .tmp t => Nat.lor r (Nat.shiftLeft 1 t) | .cell t _ => Nat.lor r (Nat.shiftLeft 1 t)) (match fn.body with | some c => handed c 0 | none => 0)
/-- A function's body, from its arguments. -/
noncomputable def bodyOf (P : Program) (ec : EC) (f : FuncId) (args : List AV) (n : Nat) (H : Heap) (k : Func → Env → List Df → Nat → Heap → VR) : VR :=
  match callable P f with
  | none => .er [f, 226]
  | some fn => (match fn.body with
    | none => .er [227]
    | some c => (match Nat.ble (len args) fn.ntmps with
      | false => .er [228]
      | true => args0 args 0 (.mk (vars fn) [] [] Q4.e) fun env => (match ec c none fn.ntmps env [] n H with
        | .er l => .er (f :: l)
        | .ok e env ms n H => (match e with
          | .ex _ => .er [229]
          | .go _ => .er [229]
          | _ => k fn env ms n H))))
noncomputable def resV (P : Program) (f : FuncId) (fn : Func) (env : Env) (n : Nat) (H : Heap) : VR :=
  match resOf P env n H fn.results.toList with
  | none => .er [f, 230]
  | some l => (match l with | [v] => .ok v n H | l => .ok (.tup l) n H)
noncomputable def leaveD (P : Program) (ec : EC) (ms : List Df) : Nat → Heap → (Nat → Heap → VR) → VR :=
  List.rec (motive := fun _ => Nat → Heap → (Nat → Heap → VR) → VR) (fun n H k => k n H)
    (fun d _ ih n H k => match d with
      | .mark x => (match Q8.get H x with | some .defd => Q8.set none H x fun H => ih n H k | _ => .er [225])
      | .call f args => (match bodyOf P ec f args n H (fun fn env ms n H => match ms with | [] => resV P f fn env n H | _ => .er [234]) with
          | .ok _ n H => ih n H k
          | .er l => .er l)) ms
/-- What is known of some functions already. -/
abbrev Orc := FuncId → Option (List AV → Nat → Heap → VR)
noncomputable def stepF (P : Program) (O : Orc) (ec : EC) (f : FuncId) (args : List AV) (n : Nat) (H : Heap) : VR :=
  match O f with
  | some g => g args n H
  | none => bodyOf P ec f args n H fun fn env ms n H => leaveD P ec ms n H fun n H => resV P f fn env n H
structure EV where
  ec : EC
  ef : EF
noncomputable def ev (P : Program) (O : Orc) (fuel : Nat) : EV :=
  Nat.rec ⟨fun _ _ _ _ _ _ _ => .er [231], fun _ _ _ _ => .er [232]⟩
    (fun _ ih => ⟨fun c => stepC c P ih.ec ih.ef, stepF P O ih.ec⟩) fuel
end Go.Sy

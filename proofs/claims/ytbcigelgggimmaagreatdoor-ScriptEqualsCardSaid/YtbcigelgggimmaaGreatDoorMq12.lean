/- RfE, EqA, EqB, EqC, EqD, EqE, EqF, SymCB -/
import Derived.Test.YtbcigelgggimmaaGreatDoorMq11
import Derived.Test.YtbcigelgggimmaaGreatDoorMq9
import Derived.Deep.DeepCutAuto
import Derived.Deep.Cut
import Derived.Test.YtbcigelgggimmaaGreatDoorMq6
namespace Go.Proofs.YtbcigelgggimmaaGreatDoor
open Go Go.RowKit
set_option maxRecDepth 100000 in
set_option maxHeartbeats 4000000 in
theorem refEqual_any (B1 B2 : Nat) (a b : OpV) (VA VB : Value) (w : World) (ha : Bts w B1 5 VA a.val) (hb : Bts w B2 5 VB b.val) :
    Calls Tryz.prog 21 #[opv a VA, opv b VB] w fun e w' => e = .returned (.bool (decide (eqO a b))) ∧ Below w.heap.size w w' := by
  obtain ⟨AA, ac, rfl⟩ := ha.form
  obtain ⟨AB, bc, rfl⟩ := hb.form
  unfold opv opc
  obtain ⟨W, hW⟩ : ∃ W, (w.alloc (.cells (opc a (.slice AA a.val.length ac)) 41)).alloc (.cells (opc b (.slice AB b.val.length bc)) 41) = W := ⟨_, rfl⟩
  have hbe : Below w.heap.size w W := hW ▸ ((Below.refl _ _).alloc (Nat.le_refl _) _).alloc (by simp) _
  have hba : Blk W w.heap.size 41 (opc a (.slice AA a.val.length ac)) := hW ▸ (Blk.new _ _ _).alloc _
  have hbb : Blk W (w.heap.size + 1) 41 (opc b (.slice AB b.val.length bc)) := hW ▸ Blk.new2 _ _ _ _
  have cva := (ha.below hbe).string (P := Tryz.prog) 39 9 Tryz.underlying39 Tryz.underlying5 Tryz.underlying9
  have cvb := (hb.below hbe).string (P := Tryz.prog) 39 9 Tryz.underlying39 Tryz.underlying5 Tryz.underlying9
  unfold opc at hW
  obtain ⟨z0, z1, z2, z3, z4, z5, z6, z7, z8⟩ := op_cells hba
  obtain ⟨y0, y1, y2, y3, y4, y5, y6, y7, y8⟩ := op_cells hbb
  have HB := Lib.hid hbe
  have hE : ∀ r : Bool, (r = true ↔ (a.kind = b.kind ∧ a.ticks = b.ticks ∧ a.key.toList = b.key.toList ∧ a.val = b.val ∧ a.ttl = b.ttl ∧ a.count = b.count ∧ a.bytes = b.bytes ∧ a.cursor = b.cursor ∧ a.birth = b.birth)) → decide (eqO a b) = r := fun r hr => by
    have hk : a.key.toList = b.key.toList ↔ a.key = b.key := ⟨fun e => by rw [ByteArray.toList_eq, ByteArray.toList_eq] at e; exact WideShapes.bytes_inj e, fun e => by rw [e]⟩
    rw [hk] at hr
    cases r with
    | true => exact decide_eq_true (hr.1 rfl)
    | false => exact decide_eq_false fun h => by have := hr.2 h; cases this
  have HE := Lib.hid hE
  clear hE
  clear hbe hba hbb ha hb
  go_enter Tryz.func21, Tryz.ntmps21
  go_upto_region 1 with fail
  try rw [hW]
  clear hW
  go_wp2_with fail
  all_goals go_ret
  all_goals exact ⟨congrArg (fun r => Ending.returned (Value.bool r)) (HE.out _ (by simp_all)).symm, HB.out⟩
end Go.Proofs.YtbcigelgggimmaaGreatDoor
namespace Go.Proofs.YtbcigelgggimmaaGreatDoor
open Go Go.RowKit
/-- An entry. -/
structure EntV where
  key : ByteArray
  val : List UInt8
  dl : Int
  birth : Int
instance : DecidableEq EntV := fun a b =>
  if h : a.key = b.key ∧ a.val = b.val ∧ a.dl = b.dl ∧ a.birth = b.birth then isTrue (by cases a; cases b; simp_all) else isFalse (by rintro rfl; simp at h)
/-- An event. -/
structure EvV where
  kind : Int
  key : ByteArray
  val : List UInt8
  birth : Int
  dl : Int
  at_ : Int
instance : DecidableEq EvV := fun a b =>
  if h : a.kind = b.kind ∧ a.key = b.key ∧ a.val = b.val ∧ a.birth = b.birth ∧ a.dl = b.dl ∧ a.at_ = b.at_ then isTrue (by cases a; cases b; simp_all) else isFalse (by rintro rfl; simp at h)
/-- A result. -/
structure ResV where
  op : OpV
  at_ : Int
  err : Int
  hit : Bool
  val : List UInt8
  ent : EntV
  cursor : Int
  evs : List EvV
  len : Int
  cost : Int
def entc (e : EntV) (v : Value) : Array Value := #[.string e.key, v, .int .u64 e.dl, .int .u64 e.birth]
def entv (e : EntV) (v : Value) : Value := .agg (entc e v)
def evc (x : EvV) (v : Value) : Array Value := #[.int .i64 x.kind, .string x.key, v, .int .u64 x.birth, .int .u64 x.dl, .int .u64 x.at_]
def evv (x : EvV) (v : Value) : Value := .agg (evc x v)
/-- A slice that reads as events. -/
structure EvsAt (w : World) (B : Nat) (v : Value) (xs : List (EvV × Value)) : Prop where
  form : ∃ A cap, v = .slice A xs.length cap ∧ xs.length ≤ cap ∧ cap ≤ maxLen ∧ (A = none → xs.length = 0) ∧
    (0 < xs.length → ∃ b off, A = some ⟨b, off, none⟩ ∧ (b < w.heap.size ∧ b < B) ∧ ∀ i p, xs[i]? = some p → ∀ j u, (evc p.1 p.2)[j]? = some u → w.cell? ⟨b, off + (i * 6 + j), none⟩ = some u)
  vals : ∀ p ∈ xs, Bts w B 5 p.2 p.1.val
section
variable {w w' : World} {B : Nat} {v : Value} {xs : List (EvV × Value)}
theorem EvsAt.keep (h : EvsAt w B v xs) (hb : KeepB B 5 w w') : EvsAt w' B v xs := by
  obtain ⟨⟨A, cap, e, h1, h2, h3, h4⟩, h5⟩ := h
  refine ⟨⟨A, cap, e, h1, h2, h3, fun hp => ?_⟩, fun p hp => (h5 p hp).keep hb⟩
  obtain ⟨b, off, hA, hlt, hc⟩ := h4 hp
  refine ⟨b, off, hA, ⟨Nat.lt_of_lt_of_le hlt.1 hb.1, hlt.2⟩, fun i p hi j u hu => ?_⟩
  rw [World.cell?_of_block (w := w) (a := ⟨b, off + (i * 6 + j), none⟩) (hb.2 b hlt.1 (.inl hlt.2))]
  exact hc i p hi j u hu
theorem EvsAt.below (h : EvsAt w B v xs) (hb : Below w.heap.size w w') : EvsAt w' B v xs := h.keep (KeepB.of_below hb)
theorem EvsAt.slice (h : EvsAt w B v xs) : ∃ A cap, v = .slice A xs.length cap := by obtain ⟨⟨A, cap, e, _⟩, _⟩ := h; exact ⟨A, cap, e⟩
theorem EvsAt.cap (h : EvsAt w B v xs) : ∃ A cap, v = .slice A xs.length cap ∧ xs.length ≤ cap ∧ cap ≤ maxLen := by obtain ⟨⟨A, cap, e, h1, h2, _⟩, _⟩ := h; exact ⟨A, cap, e, h1, h2⟩
theorem EvsAt.at_ {A : Option Addr} {n cap : Nat} (h : EvsAt w B (.slice A n cap) xs) {i : Nat} {p : EvV × Value} (hi : xs[i]? = some p) : ∃ b off, A = some ⟨b, off, none⟩ ∧ (b < w.heap.size ∧ b < B) ∧
    w.cell? ⟨b, off + i * 6, none⟩ = some (.int .i64 p.1.kind) ∧ w.cell? ⟨b, off + i * 6 + 1, none⟩ = some (.string p.1.key) ∧ w.cell? ⟨b, off + i * 6 + 2, none⟩ = some p.2 ∧ w.cell? ⟨b, off + i * 6 + 3, none⟩ = some (.int .u64 p.1.birth) ∧ w.cell? ⟨b, off + i * 6 + 4, none⟩ = some (.int .u64 p.1.dl) ∧ w.cell? ⟨b, off + i * 6 + 5, none⟩ = some (.int .u64 p.1.at_) := by
  obtain ⟨⟨A', cap', e, h1, h2, h3, h4⟩, h5⟩ := h
  injection e with e1 e2 e3
  subst e1
  have hl := (List.getElem?_eq_some_iff.1 hi).1
  obtain ⟨b, off, hA, hlt, hc⟩ := h4 (by omega)
  exact ⟨b, off, hA, hlt, hc i p hi 0 _ rfl, hc i p hi 1 _ rfl, hc i p hi 2 _ rfl, hc i p hi 3 _ rfl, hc i p hi 4 _ rfl, hc i p hi 5 _ rfl⟩
end
/-- The cells of a result. -/
def resc (r : ResV) (V1 V2 V3 V4 : Value) : Array Value :=
  #[.int .i64 r.op.kind, .int .u64 r.op.ticks, .string r.op.key, V1, .int .u64 r.op.ttl, .int .i64 r.op.count, .int .i64 r.op.bytes, .int .i64 r.op.cursor, .int .u64 r.op.birth, .int .u64 r.at_, .int .i64 r.err, .bool r.hit, V2, .string r.ent.key, V3, .int .u64 r.ent.dl, .int .u64 r.ent.birth, .int .i64 r.cursor, V4, .int .i64 r.len, .int .i64 r.cost]
def resv (r : ResV) (V1 V2 V3 V4 : Value) : Value := .agg (resc r V1 V2 V3 V4)
/-- A result's slices. -/
structure ResAt (w : World) (B : Nat) (r : ResV) (V1 V2 V3 V4 : Value) (xs : List (EvV × Value)) : Prop where
  a1 : Bts w B 5 V1 r.op.val
  a2 : Bts w B 5 V2 r.val
  a3 : Bts w B 5 V3 r.ent.val
  a4 : EvsAt w B V4 xs
  evs : xs.map Prod.fst = r.evs
theorem ResAt.keep {w W : World} {B : Nat} {r : ResV} {V1 V2 V3 V4 : Value} {xs : List (EvV × Value)} (h : ResAt w B r V1 V2 V3 V4 xs) (hk : KeepB B 5 w W) : ResAt W B r V1 V2 V3 V4 xs :=
  ⟨h.a1.keep hk, h.a2.keep hk, h.a3.keep hk, h.a4.keep hk, h.evs⟩
section
variable {P : Program}
/-- A struct is loaded from within a block. -/
theorem wpList_load_at {ops : Array Oper} {rest : List Oper} {o : Oper} {a : Act} {w : World} {Q : Exit → Act → World → Prop} (hgd : o.guard = none) (ty : TypeId) (x : Operand) (ho : o.op = .load ty x)
    (p : Addr) (hx : a.eval x = .pointer (some p)) (cs : Array Value) (d : TypeDesc) (hc : ∀ j v, cs.toList[j]? = some v → w.cell? (p.add j) = some v)
    (hu : P.underlying ty = some d) (hd : (match d with | .struct _ | .array _ _ => true | _ => false) = true) (hi : (P.info? ty).map (·.size) = some cs.size)
    (h : wpList P ops Q rest (a.put o.dst (.agg cs)) w) : wpList P ops Q (o :: rest) a w := by
  have hl : (loadCells p cs.toList.length).run P w = .ok cs.toList.toArray w := run_loadCells_list (P := P) w p cs.toList hc
  have hv : (loadVar ty p).run P w = .ok (.agg cs) w := by
    cases hq : P.info? ty with
    | none => simp [hq] at hi
    | some i =>
      have hs : i.size = cs.size := by simpa [hq] using hi
      have hagg : (isAgg ty).run P w = .ok true w := by
        unfold isAgg
        rw [Sem.run_bind, run_underlying hu w]
        cases d <;> simp_all
      simp only [Array.length_toList, Array.toArray_toList] at hl
      simp [loadVar, Sem.run_bind, hagg, sizeOf, typeInfo, hq, hs, hl]
  refine wpList_plain hgd fun _ hK => ?_
  unfold Oper.wp execOp
  simp only [ho, hx, Instr.loadAt, Instr.sureAddr, Sem.run_bind, Sem.run_pure, Result.andThen_ok, hv]
  exact hK _ _ h
end
/-- A result and its slices. -/
structure RQ where
  r : ResV
  v1 : Value
  v2 : Value
  v3 : Value
  v4 : Value
  xs : List (EvV × Value)
def RQ.c (q : RQ) : Array Value := resc q.r q.v1 q.v2 q.v3 q.v4
/-- A slice that reads as results. -/
structure RsAt (w : World) (B : Nat) (v : Value) (qs : List RQ) : Prop where
  form : ∃ A cap, v = .slice A qs.length cap ∧ qs.length ≤ cap ∧ cap ≤ maxLen ∧ (A = none → qs.length = 0) ∧
    (0 < qs.length → ∃ b off, A = some ⟨b, off, none⟩ ∧ (b < w.heap.size ∧ b < B) ∧ ∀ i p, qs[i]? = some p → ∀ j u, p.c[j]? = some u → w.cell? ⟨b, off + (i * 21 + j), none⟩ = some u)
  vals : ∀ p ∈ qs, ResAt w B p.r p.v1 p.v2 p.v3 p.v4 p.xs
section
variable {w w' : World} {B : Nat} {v : Value} {qs : List RQ}
theorem RsAt.keep (h : RsAt w B v qs) (hb : KeepB B 5 w w') : RsAt w' B v qs := by
  obtain ⟨⟨A, cap, e, h1, h2, h3, h4⟩, h5⟩ := h
  refine ⟨⟨A, cap, e, h1, h2, h3, fun hp => ?_⟩, fun p hp => (h5 p hp).keep hb⟩
  obtain ⟨b, off, hA, hlt, hc⟩ := h4 hp
  refine ⟨b, off, hA, ⟨Nat.lt_of_lt_of_le hlt.1 hb.1, hlt.2⟩, fun i p hi j u hu => ?_⟩
  rw [World.cell?_of_block (w := w) (a := ⟨b, off + (i * 21 + j), none⟩) (hb.2 b hlt.1 (.inl hlt.2))]
  exact hc i p hi j u hu
theorem RsAt.below (h : RsAt w B v qs) (hb : Below w.heap.size w w') : RsAt w' B v qs := h.keep (KeepB.of_below hb)
theorem RsAt.cap (h : RsAt w B v qs) : ∃ A cap, v = .slice A qs.length cap ∧ qs.length ≤ cap ∧ cap ≤ maxLen := by obtain ⟨⟨A, cap, e, h1, h2, _⟩, _⟩ := h; exact ⟨A, cap, e, h1, h2⟩
theorem RsAt.at_ {A : Option Addr} {n cap : Nat} (h : RsAt w B (.slice A n cap) qs) {i : Nat} {p : RQ} (hi : qs[i]? = some p) : ∃ b off, A = some ⟨b, off, none⟩ ∧ b < w.heap.size := by
  obtain ⟨⟨A', cap', e, h1, h2, h3, h4⟩, h5⟩ := h
  injection e with e1 e2 e3
  subst e1
  have hl := (List.getElem?_eq_some_iff.1 hi).1
  obtain ⟨b, off, hA, hlt, hc⟩ := h4 (by omega)
  exact ⟨b, off, hA, hlt.1⟩
theorem RsAt.cell {q off n cap : Nat} (h : RsAt w B (.slice (some ⟨q, off, none⟩) n cap) qs) {i : Nat} {p : RQ} (hi : qs[i]? = some p) (j : Nat) (u : Value) (hu : p.c[j]? = some u) : w.cell? ⟨q, off + i * 21 + j, none⟩ = some u := by
  obtain ⟨⟨A', cap', e, h1, h2, h3, h4⟩, h5⟩ := h
  injection e with e1 e2 e3
  subst e1
  have hl := (List.getElem?_eq_some_iff.1 hi).1
  obtain ⟨b, o2, hA, hlt, hc⟩ := h4 (by omega)
  cases hA
  rw [Nat.add_assoc]
  exact hc i p hi j u hu
end
theorem Only.setRow {S : Nat → Prop} {a w : World} (h : Only S a w) {g : Nat} (hg : S g ∨ a.heap.size ≤ g) (cs : Array Value) : Only S a (w.setRow g cs) :=
  ⟨h.os, h.tape, h.output, by rw [setRow_size]; exact h.size, fun i hi hn => (setRow_other w g i cs (by
    rintro rfl
    rcases hg with hg | hg
    · exact hn hg
    · omega)).trans (h.block i hi hn)⟩
theorem Blk.row {w : World} {g : Nat} {t : TypeId} {cs : Array Value} (h : Blk w g t cs) (cs' : Array Value) : Blk (w.setRow g cs') g t cs' := setRow_heap w g cs cs' t (0, 0) h
def zres : Array Value := #[.int .i64 0, .int .u64 0, .string ⟨#[]⟩, .slice none 0 0, .int .u64 0, .int .i64 0, .int .i64 0, .int .i64 0, .int .u64 0, .int .u64 0, .int .i64 0, .bool false, .slice none 0 0, .string ⟨#[]⟩, .slice none 0 0, .int .u64 0, .int .u64 0, .int .i64 0, .slice none 0 0, .int .i64 0, .int .i64 0]
theorem zres_eq : zres = #[.int .i64 0, .int .u64 0, .string ⟨#[]⟩, .slice none 0 0, .int .u64 0, .int .i64 0, .int .i64 0, .int .i64 0, .int .u64 0, .int .u64 0, .int .i64 0, .bool false, .slice none 0 0, .string ⟨#[]⟩, .slice none 0 0, .int .u64 0, .int .u64 0, .int .i64 0, .slice none 0 0, .int .i64 0, .int .i64 0] := rfl
theorem resc_one (r : ResV) (A1 A2 A3 A4 : Option Addr) (n1 n2 n3 n4 c1 c2 c3 c4 : Nat) : (resc r (.slice A1 n1 c1) (.slice A2 n2 c2) (.slice A3 n3 c3) (.slice A4 n4 c4)).all (·.oneCell') = true := by simp [resc, Value.oneCell']
theorem fresh_row {w : World} {cs cs' : Array Value} {t : TypeId} : Below w.heap.size w ((w.alloc (.cells cs t)).setRow w.heap.size cs') ∧ Blk ((w.alloc (.cells cs t)).setRow w.heap.size cs') w.heap.size t cs' := by
  refine ⟨?_, (Blk.new w t cs).row cs'⟩
  have h := Only.setRow (S := fun k => k = w.heap.size) (Only.refl _ (w.alloc (.cells cs t))) (g := w.heap.size) (.inl rfl) cs'
  exact ((Below.refl _ _).alloc (Nat.le_refl _) _).trans (h.below (fun i hi hlt e => by omega) (by rw [World.size_alloc]; omega))
theorem resB {W : World} {g : Nat} {r : ResV} {V1 V2 V3 V4 : Value} (h : Blk W g 46 (resc r V1 V2 V3 V4)) : W.cell? ⟨g, 9, none⟩ = some (.int .u64 r.at_) ∧ W.cell? ⟨g, 10, none⟩ = some (.int .i64 r.err) ∧ W.cell? ⟨g, 11, none⟩ = some (.bool r.hit) ∧ W.cell? ⟨g, 12, none⟩ = some V2 ∧ W.cell? ⟨g, 13, none⟩ = some (.string r.ent.key) ∧ W.cell? ⟨g, 14, none⟩ = some V3 ∧ W.cell? ⟨g, 15, none⟩ = some (.int .u64 r.ent.dl) ∧ W.cell? ⟨g, 16, none⟩ = some (.int .u64 r.ent.birth) ∧ W.cell? ⟨g, 17, none⟩ = some (.int .i64 r.cursor) ∧ W.cell? ⟨g, 18, none⟩ = some V4 ∧ W.cell? ⟨g, 19, none⟩ = some (.int .i64 r.len) ∧ W.cell? ⟨g, 20, none⟩ = some (.int .i64 r.cost) :=
  ⟨h.cell 9 _ rfl, h.cell 10 _ rfl, h.cell 11 _ rfl, h.cell 12 _ rfl, h.cell 13 _ rfl, h.cell 14 _ rfl, h.cell 15 _ rfl, h.cell 16 _ rfl, h.cell 17 _ rfl, h.cell 18 _ rfl, h.cell 19 _ rfl, h.cell 20 _ rfl⟩
theorem below_two (w : World) (o1 o2 : Obj) : Below w.heap.size w ((w.alloc o1).alloc o2) := ((Below.refl _ _).alloc (Nat.le_refl _) _).alloc (by simp) _
/-- Two results are equal. -/
def eqR (a b : ResV) : Bool := decide (eqO a.op b.op) && (decide (a.at_ = b.at_) && (decide (a.err = b.err) && (decide (a.hit = b.hit) && (decide (a.val = b.val) && (decide (a.ent = b.ent) && (decide (a.cursor = b.cursor) && (decide (a.evs = b.evs) && (decide (a.len = b.len) && decide (a.cost = b.cost)))))))))
theorem eqR_refl (a : ResV) : eqR a a = true := by simp [eqR, eqO]
theorem eqR_symm (a b : ResV) : eqR a b = eqR b a := by
  rw [Bool.eq_iff_iff]
  simp only [eqR, Bool.and_eq_true, decide_eq_true_eq]
  constructor <;> (rintro ⟨h1, h10, h11, h12, h13, h14, h15, h16, h17, h18⟩; exact ⟨(eqO_iff _ _).2 ((eqO_iff _ _).1 h1).symm, h10.symm, h11.symm, h12.symm, h13.symm, h14.symm, h15.symm, h16.symm, h17.symm, h18.symm⟩)
/-- Two traces agree up to an index. -/
def Agree (l m : List RQ) (k : Nat) : Prop := ∀ (j : Nat) (x y : RQ), j < k → l[j]? = some x → m[j]? = some y → eqR x.r y.r = true
/-- They differ there. -/
def Apart (l m : List RQ) (k : Nat) : Prop := (k < l.length ∨ k < m.length) ∧ ∀ x y : RQ, l[k]? = some x → m[k]? = some y → eqR x.r y.r = false
/-- The first index at which two traces differ. -/
def DifIs (l m : List RQ) (r : Int) : Prop := (r = -1 ∧ l.length = m.length ∧ Agree l m l.length) ∨ ∃ k : Nat, r = (k : Int) ∧ k ≤ l.length ∧ k ≤ m.length ∧ Agree l m k ∧ Apart l m k
theorem Agree.symm {l m : List RQ} {k : Nat} (h : Agree l m k) : Agree m l k := fun j x y hj hx hy => by rw [eqR_symm]; exact h j y x hj hy hx
theorem Apart.symm {l m : List RQ} {k : Nat} (h : Apart l m k) : Apart m l k := ⟨h.1.symm, fun x y hx hy => by rw [eqR_symm]; exact h.2 y x hy hx⟩
theorem DifIs.symm {l m : List RQ} {r : Int} (h : DifIs l m r) : DifIs m l r := by
  rcases h with ⟨h1, h2, h3⟩ | ⟨k, h1, h2, h3, h4, h5⟩
  · exact .inl ⟨h1, h2.symm, h2 ▸ h3.symm⟩
  · exact .inr ⟨k, h1, h3, h2, h4.symm, h5.symm⟩
theorem Apart.not_agree {l m : List RQ} {k n : Nat} (h : Apart l m k) (hk : k < n) (ha : Agree l m n) (hl : k < l.length) (hm : k < m.length) : False := by
  have h1 := ha k _ _ hk (List.getElem?_eq_getElem hl) (List.getElem?_eq_getElem hm)
  rw [h.2 _ _ (List.getElem?_eq_getElem hl) (List.getElem?_eq_getElem hm)] at h1
  cases h1
theorem DifIs.unique {l m : List RQ} {r s : Int} (h : DifIs l m r) (g : DifIs l m s) : r = s := by
  rcases h with ⟨h1, h2, h3⟩ | ⟨k, h1, h2, h3, h4, h5⟩ <;> rcases g with ⟨g1, g2, g3⟩ | ⟨j, g1, g2, g3, g4, g5⟩
  · rw [h1, g1]
  · have := g5.1
    exact (g5.not_agree (by omega) h3 (by omega) (by omega)).elim
  · have := h5.1
    exact (h5.not_agree (by omega) g3 (by omega) (by omega)).elim
  · have e : k = j := by
      rcases Nat.lt_trichotomy k j with e | e | e
      · exact (h5.not_agree e g4 (by omega) (by omega)).elim
      · exact e
      · exact (g5.not_agree e h4 (by omega) (by omega)).elim
    rw [h1, g1, e]
theorem DifIs.self (l : List RQ) : DifIs l l (-1) := .inl ⟨rfl, rfl, fun j x y _ hx hy => by
  rw [hx] at hy
  injection hy with hy
  rw [hy]; exact eqR_refl _⟩
end Go.Proofs.YtbcigelgggimmaaGreatDoor
namespace Go.Proofs.YtbcigelgggimmaaGreatDoor
open Go Go.RowKit
set_option maxHeartbeats 2000000 in
theorem sameEntry_any (B1 B2 : Nat) (x y : EntV) (v u : Value) (w : World) (hv : Bts w B1 5 v x.val) (hu : Bts w B2 5 u y.val) :
    Calls Tryz.prog 58 #[entv x v, entv y u] w fun e w' => e = .returned (.bool (decide (x = y))) ∧ Below w.heap.size w w' := by
  obtain ⟨b, hb⟩ : ∃ b, decide (x.val = y.val) = b := ⟨_, rfl⟩
  have HB := Lib.hid (fun o1 o2 => hb ▸ bytesEqual_any B1 B2 v u x.val y.val ((w.alloc o1).alloc o2) ((hv.alloc o1).alloc o2) ((hu.alloc o1).alloc o2))
  obtain ⟨A, cap, rfl⟩ := hv.form
  obtain ⟨A2, cap2, rfl⟩ := hu.form
  unfold entv entc
  clear hv hu
  obtain ⟨k1, b1, d1, n1⟩ := x
  obtain ⟨k2, b2, d2, n2⟩ := y
  dsimp only at *
  by_cases h1 : k1 = k2
  · have g1 : (k1.toList == k2.toList) = true := by rw [key_eqb]; simp [h1]
    cases b with
    | false =>
      have h2 : b1 ≠ b2 := by simpa using hb
      have HS := Lib.hid (show decide ((⟨k1, b1, d1, n1⟩ : EntV) = ⟨k2, b2, d2, n2⟩) = false by simp [h2])
      clear h1 h2 hb
      go_enter Tryz.func58, Tryz.ntmps58
      go_wp2_with fail
      refine (HB.out _ _).mono ?_
      rintro e w' ⟨rfl, hw⟩
      subst hw
      go_wp2_with fail
      go_ret
      first | exact ⟨by rw [HS.out]; rfl, below_two _ _ _⟩ | exact ⟨rfl, below_two _ _ _⟩
    | true =>
      have h2 : b1 = b2 := by simpa using hb
      by_cases h3 : d1 = d2
      · have g3 : (d1 == d2) = true := by simp [h3]
        by_cases h4 : n1 = n2
        · have g4 : (n1 == n2) = true := by simp [h4]
          have HS := Lib.hid (show decide ((⟨k1, b1, d1, n1⟩ : EntV) = ⟨k2, b2, d2, n2⟩) = true by simp [h1, h2, h3, h4])
          clear h1 h2 h3 h4 hb
          go_enter Tryz.func58, Tryz.ntmps58
          go_wp2_with fail
          refine (HB.out _ _).mono ?_
          rintro e w' ⟨rfl, hw⟩
          subst hw
          go_wp2_with fail
          go_ret
          first | exact ⟨by rw [HS.out]; rfl, below_two _ _ _⟩ | exact ⟨rfl, below_two _ _ _⟩
        · have g4 : (n1 == n2) = false := by simp [h4]
          have HS := Lib.hid (show decide ((⟨k1, b1, d1, n1⟩ : EntV) = ⟨k2, b2, d2, n2⟩) = false by simp [h4])
          clear h1 h2 h3 h4 hb
          go_enter Tryz.func58, Tryz.ntmps58
          go_wp2_with fail
          refine (HB.out _ _).mono ?_
          rintro e w' ⟨rfl, hw⟩
          subst hw
          go_wp2_with fail
          go_ret
          first | exact ⟨by rw [HS.out]; rfl, below_two _ _ _⟩ | exact ⟨rfl, below_two _ _ _⟩
      · have g3 : (d1 == d2) = false := by simp [h3]
        have HS := Lib.hid (show decide ((⟨k1, b1, d1, n1⟩ : EntV) = ⟨k2, b2, d2, n2⟩) = false by simp [h3])
        clear h1 h2 h3 hb
        go_enter Tryz.func58, Tryz.ntmps58
        go_wp2_with fail
        refine (HB.out _ _).mono ?_
        rintro e w' ⟨rfl, hw⟩
        subst hw
        go_wp2_with fail
        go_ret
        first | exact ⟨by rw [HS.out]; rfl, below_two _ _ _⟩ | exact ⟨rfl, below_two _ _ _⟩
  · have g1 : (k1.toList == k2.toList) = false := by rw [key_eqb]; simp [h1]
    have HS := Lib.hid (show decide ((⟨k1, b1, d1, n1⟩ : EntV) = ⟨k2, b2, d2, n2⟩) = false by simp [h1])
    clear h1 hb
    go_enter Tryz.func58, Tryz.ntmps58
    go_wp2_with fail
    go_ret
    first | exact ⟨by rw [HS.out]; rfl, below_two _ _ _⟩ | exact ⟨rfl, below_two _ _ _⟩
set_option maxHeartbeats 2000000 in
theorem eventEqual_any (B1 B2 : Nat) (x y : EvV) (v u : Value) (w : World) (hv : Bts w B1 5 v x.val) (hu : Bts w B2 5 u y.val) :
    Calls Tryz.prog 60 #[evv x v, evv y u] w fun e w' => e = .returned (.bool (decide (x = y))) ∧ Below w.heap.size w w' := by
  obtain ⟨b, hb⟩ : ∃ b, decide (x.val = y.val) = b := ⟨_, rfl⟩
  have HB := Lib.hid (fun o1 o2 => hb ▸ bytesEqual_any B1 B2 v u x.val y.val ((w.alloc o1).alloc o2) ((hv.alloc o1).alloc o2) ((hu.alloc o1).alloc o2))
  obtain ⟨A, cap, rfl⟩ := hv.form
  obtain ⟨A2, cap2, rfl⟩ := hu.form
  unfold evv evc
  clear hv hu
  obtain ⟨q1, k1, b1, n1, d1, t1⟩ := x
  obtain ⟨q2, k2, b2, n2, d2, t2⟩ := y
  dsimp only at *
  by_cases h0 : q1 = q2
  · have g0 : (q1 == q2) = true := by simp [h0]
    by_cases h1 : k1 = k2
    · have g1 : (k1.toList == k2.toList) = true := by rw [key_eqb]; simp [h1]
      cases b with
      | false =>
        have h2 : b1 ≠ b2 := by simpa using hb
        have HS := Lib.hid (show decide ((⟨q1, k1, b1, n1, d1, t1⟩ : EvV) = ⟨q2, k2, b2, n2, d2, t2⟩) = false by simp [h2])
        clear h2 hb
        go_enter Tryz.func60, Tryz.ntmps60
        go_wp2_with fail
        refine (HB.out _ _).mono ?_
        rintro e w' ⟨rfl, hw⟩
        subst hw
        go_wp2_with fail
        go_ret
        first | exact ⟨by rw [HS.out]; rfl, below_two _ _ _⟩ | exact ⟨rfl, below_two _ _ _⟩
      | true =>
        have h2 : b1 = b2 := by simpa using hb
        by_cases h3 : n1 = n2
        · have g3 : (n1 == n2) = true := by simp [h3]
          by_cases h4 : d1 = d2
          · have g4 : (d1 == d2) = true := by simp [h4]
            by_cases h5 : t1 = t2
            · have g5 : (t1 == t2) = true := by simp [h5]
              have HS := Lib.hid (show decide ((⟨q1, k1, b1, n1, d1, t1⟩ : EvV) = ⟨q2, k2, b2, n2, d2, t2⟩) = true by simp [h0, h1, h2, h3, h4, h5])
              clear h0 h1 h2 h3 h4 h5 hb
              go_enter Tryz.func60, Tryz.ntmps60
              go_wp2_with fail
              refine (HB.out _ _).mono ?_
              rintro e w' ⟨rfl, hw⟩
              subst hw
              go_wp2_with fail
              go_ret
              first | exact ⟨by rw [HS.out]; rfl, below_two _ _ _⟩ | exact ⟨rfl, below_two _ _ _⟩
            · have g5 : (t1 == t2) = false := by simp [h5]
              have HS := Lib.hid (show decide ((⟨q1, k1, b1, n1, d1, t1⟩ : EvV) = ⟨q2, k2, b2, n2, d2, t2⟩) = false by simp [h5])
              clear h5 h0 h1 h2 h3 h4 hb
              go_enter Tryz.func60, Tryz.ntmps60
              go_wp2_with fail
              refine (HB.out _ _).mono ?_
              rintro e w' ⟨rfl, hw⟩
              subst hw
              go_wp2_with fail
              go_ret
              first | exact ⟨by rw [HS.out]; rfl, below_two _ _ _⟩ | exact ⟨rfl, below_two _ _ _⟩
          · have g4 : (d1 == d2) = false := by simp [h4]
            have HS := Lib.hid (show decide ((⟨q1, k1, b1, n1, d1, t1⟩ : EvV) = ⟨q2, k2, b2, n2, d2, t2⟩) = false by simp [h4])
            clear h4 h0 h1 h2 h3 hb
            go_enter Tryz.func60, Tryz.ntmps60
            go_wp2_with fail
            refine (HB.out _ _).mono ?_
            rintro e w' ⟨rfl, hw⟩
            subst hw
            go_wp2_with fail
            go_ret
            first | exact ⟨by rw [HS.out]; rfl, below_two _ _ _⟩ | exact ⟨rfl, below_two _ _ _⟩
        · have g3 : (n1 == n2) = false := by simp [h3]
          have HS := Lib.hid (show decide ((⟨q1, k1, b1, n1, d1, t1⟩ : EvV) = ⟨q2, k2, b2, n2, d2, t2⟩) = false by simp [h3])
          clear h3 h0 h1 h2 hb
          go_enter Tryz.func60, Tryz.ntmps60
          go_wp2_with fail
          refine (HB.out _ _).mono ?_
          rintro e w' ⟨rfl, hw⟩
          subst hw
          go_wp2_with fail
          go_ret
          first | exact ⟨by rw [HS.out]; rfl, below_two _ _ _⟩ | exact ⟨rfl, below_two _ _ _⟩
    · have g1 : (k1.toList == k2.toList) = false := by rw [key_eqb]; simp [h1]
      have HS := Lib.hid (show decide ((⟨q1, k1, b1, n1, d1, t1⟩ : EvV) = ⟨q2, k2, b2, n2, d2, t2⟩) = false by simp [h1])
      clear h1 h0 hb
      go_enter Tryz.func60, Tryz.ntmps60
      go_wp2_with fail
      go_ret
      first | exact ⟨by rw [HS.out]; rfl, below_two _ _ _⟩ | exact ⟨rfl, below_two _ _ _⟩
  · have g0 : (q1 == q2) = false := by simp [h0]
    have HS := Lib.hid (show decide ((⟨q1, k1, b1, n1, d1, t1⟩ : EvV) = ⟨q2, k2, b2, n2, d2, t2⟩) = false by simp [h0])
    clear h0 hb
    go_enter Tryz.func60, Tryz.ntmps60
    go_wp2_with fail
    go_ret
    first | exact ⟨by rw [HS.out]; rfl, below_two _ _ _⟩ | exact ⟨rfl, below_two _ _ _⟩
set_option maxHeartbeats 2000000 in
theorem evSame_any (B1 B2 : Nat) (x y : EvV) (v u : Value) (w : World) (hv : Bts w B1 5 v x.val) (hu : Bts w B2 5 u y.val) :
    Calls Tryz.prog 96 #[evv x v, evv y u] w fun e w' => e = .returned (.bool (decide (x = y))) ∧ Below w.heap.size w w' := by
  have cv := fun o1 o2 => ((hv.alloc o1).alloc o2).string (P := Tryz.prog) 39 9 Tryz.underlying39 Tryz.underlying5 Tryz.underlying9
  have cu := fun o1 o2 => ((hu.alloc o1).alloc o2).string (P := Tryz.prog) 39 9 Tryz.underlying39 Tryz.underlying5 Tryz.underlying9
  obtain ⟨A, cap, rfl⟩ := hv.form
  obtain ⟨A2, cap2, rfl⟩ := hu.form
  unfold evv evc
  clear hv hu
  obtain ⟨q1, k1, b1, n1, d1, t1⟩ := x
  obtain ⟨q2, k2, b2, n2, d2, t2⟩ := y
  dsimp only at *
  by_cases h0 : q1 = q2
  · have g0 : (q1 == q2) = true := by simp [h0]
    by_cases h1 : k1 = k2
    · have g1 : (k1.toList == k2.toList) = true := by rw [key_eqb]; simp [h1]
      by_cases h2 : b1 = b2
      · have g2 : (b1 == b2) = true := by simp [h2]
        by_cases h3 : n1 = n2
        · have g3 : (n1 == n2) = true := by simp [h3]
          by_cases h4 : d1 = d2
          · have g4 : (d1 == d2) = true := by simp [h4]
            by_cases h5 : t1 = t2
            · have g5 : (t1 == t2) = true := by simp [h5]
              have HS := Lib.hid (show decide ((⟨q1, k1, b1, n1, d1, t1⟩ : EvV) = ⟨q2, k2, b2, n2, d2, t2⟩) = true by simp [h0, h1, h2, h3, h4, h5])
              clear h0 h1 h2 h3 h4 h5
              go_enter Tryz.func96, Tryz.ntmps96
              go_wp2_with fail
              go_ret
              first | exact ⟨by rw [HS.out]; rfl, below_two _ _ _⟩ | exact ⟨rfl, below_two _ _ _⟩
            · have g5 : (t1 == t2) = false := by simp [h5]
              have HS := Lib.hid (show decide ((⟨q1, k1, b1, n1, d1, t1⟩ : EvV) = ⟨q2, k2, b2, n2, d2, t2⟩) = false by simp [h5])
              clear h5 h0 h1 h2 h3 h4
              go_enter Tryz.func96, Tryz.ntmps96
              go_wp2_with fail
              go_ret
              first | exact ⟨by rw [HS.out]; rfl, below_two _ _ _⟩ | exact ⟨rfl, below_two _ _ _⟩
          · have g4 : (d1 == d2) = false := by simp [h4]
            have HS := Lib.hid (show decide ((⟨q1, k1, b1, n1, d1, t1⟩ : EvV) = ⟨q2, k2, b2, n2, d2, t2⟩) = false by simp [h4])
            clear h4 h0 h1 h2 h3
            go_enter Tryz.func96, Tryz.ntmps96
            go_wp2_with fail
            go_ret
            first | exact ⟨by rw [HS.out]; rfl, below_two _ _ _⟩ | exact ⟨rfl, below_two _ _ _⟩
        · have g3 : (n1 == n2) = false := by simp [h3]
          have HS := Lib.hid (show decide ((⟨q1, k1, b1, n1, d1, t1⟩ : EvV) = ⟨q2, k2, b2, n2, d2, t2⟩) = false by simp [h3])
          clear h3 h0 h1 h2
          go_enter Tryz.func96, Tryz.ntmps96
          go_wp2_with fail
          go_ret
          first | exact ⟨by rw [HS.out]; rfl, below_two _ _ _⟩ | exact ⟨rfl, below_two _ _ _⟩
      · have g2 : (b1 == b2) = false := by simp [h2]
        have HS := Lib.hid (show decide ((⟨q1, k1, b1, n1, d1, t1⟩ : EvV) = ⟨q2, k2, b2, n2, d2, t2⟩) = false by simp [h2])
        clear h2 h0 h1
        go_enter Tryz.func96, Tryz.ntmps96
        go_wp2_with fail
        go_ret
        first | exact ⟨by rw [HS.out]; rfl, below_two _ _ _⟩ | exact ⟨rfl, below_two _ _ _⟩
    · have g1 : (k1.toList == k2.toList) = false := by rw [key_eqb]; simp [h1]
      have HS := Lib.hid (show decide ((⟨q1, k1, b1, n1, d1, t1⟩ : EvV) = ⟨q2, k2, b2, n2, d2, t2⟩) = false by simp [h1])
      clear h1 h0
      go_enter Tryz.func96, Tryz.ntmps96
      go_wp2_with fail
      go_ret
      first | exact ⟨by rw [HS.out]; rfl, below_two _ _ _⟩ | exact ⟨rfl, below_two _ _ _⟩
  · have g0 : (q1 == q2) = false := by simp [h0]
    have HS := Lib.hid (show decide ((⟨q1, k1, b1, n1, d1, t1⟩ : EvV) = ⟨q2, k2, b2, n2, d2, t2⟩) = false by simp [h0])
    clear h0
    go_enter Tryz.func96, Tryz.ntmps96
    go_wp2_with fail
    go_ret
    first | exact ⟨by rw [HS.out]; rfl, below_two _ _ _⟩ | exact ⟨rfl, below_two _ _ _⟩
set_option maxHeartbeats 2000000 in
theorem refEntry_any (B1 B2 : Nat) (x y : EntV) (v u : Value) (w : World) (hv : Bts w B1 5 v x.val) (hu : Bts w B2 5 u y.val) :
    Calls Tryz.prog 26 #[entv x v, entv y u] w fun e w' => e = .returned (.bool (decide (x = y))) ∧ Below w.heap.size w w' := by
  have cv := fun o1 o2 => ((hv.alloc o1).alloc o2).string (P := Tryz.prog) 39 9 Tryz.underlying39 Tryz.underlying5 Tryz.underlying9
  have cu := fun o1 o2 => ((hu.alloc o1).alloc o2).string (P := Tryz.prog) 39 9 Tryz.underlying39 Tryz.underlying5 Tryz.underlying9
  obtain ⟨A, cap, rfl⟩ := hv.form
  obtain ⟨A2, cap2, rfl⟩ := hu.form
  unfold entv entc
  clear hv hu
  obtain ⟨k1, b1, d1, n1⟩ := x
  obtain ⟨k2, b2, d2, n2⟩ := y
  dsimp only at *
  by_cases h1 : k1 = k2
  · have g1 : (k1.toList == k2.toList) = true := by rw [key_eqb]; simp [h1]
    by_cases h2 : b1 = b2
    · have g2 : (b1 == b2) = true := by simp [h2]
      by_cases h3 : d1 = d2
      · have g3 : (d1 == d2) = true := by simp [h3]
        by_cases h4 : n1 = n2
        · have g4 : (n1 == n2) = true := by simp [h4]
          have HS := Lib.hid (show decide ((⟨k1, b1, d1, n1⟩ : EntV) = ⟨k2, b2, d2, n2⟩) = true by simp [h1, h2, h3, h4])
          clear h1 h2 h3 h4
          go_enter Tryz.func26, Tryz.ntmps26
          go_wp2_with fail
          go_ret
          first | exact ⟨by rw [HS.out]; rfl, below_two _ _ _⟩ | exact ⟨rfl, below_two _ _ _⟩
        · have g4 : (n1 == n2) = false := by simp [h4]
          have HS := Lib.hid (show decide ((⟨k1, b1, d1, n1⟩ : EntV) = ⟨k2, b2, d2, n2⟩) = false by simp [h4])
          clear h4 h1 h2 h3
          go_enter Tryz.func26, Tryz.ntmps26
          go_wp2_with fail
          go_ret
          first | exact ⟨by rw [HS.out]; rfl, below_two _ _ _⟩ | exact ⟨rfl, below_two _ _ _⟩
      · have g3 : (d1 == d2) = false := by simp [h3]
        have HS := Lib.hid (show decide ((⟨k1, b1, d1, n1⟩ : EntV) = ⟨k2, b2, d2, n2⟩) = false by simp [h3])
        clear h3 h1 h2
        go_enter Tryz.func26, Tryz.ntmps26
        go_wp2_with fail
        go_ret
        first | exact ⟨by rw [HS.out]; rfl, below_two _ _ _⟩ | exact ⟨rfl, below_two _ _ _⟩
    · have g2 : (b1 == b2) = false := by simp [h2]
      have HS := Lib.hid (show decide ((⟨k1, b1, d1, n1⟩ : EntV) = ⟨k2, b2, d2, n2⟩) = false by simp [h2])
      clear h2 h1
      go_enter Tryz.func26, Tryz.ntmps26
      go_wp2_with fail
      go_ret
      first | exact ⟨by rw [HS.out]; rfl, below_two _ _ _⟩ | exact ⟨rfl, below_two _ _ _⟩
  · have g1 : (k1.toList == k2.toList) = false := by rw [key_eqb]; simp [h1]
    have HS := Lib.hid (show decide ((⟨k1, b1, d1, n1⟩ : EntV) = ⟨k2, b2, d2, n2⟩) = false by simp [h1])
    clear h1
    go_enter Tryz.func26, Tryz.ntmps26
    go_wp2_with fail
    go_ret
    first | exact ⟨by rw [HS.out]; rfl, below_two _ _ _⟩ | exact ⟨rfl, below_two _ _ _⟩
end Go.Proofs.YtbcigelgggimmaaGreatDoor
namespace Go.Proofs.YtbcigelgggimmaaGreatDoor
open Go Go.RowKit
set_option maxRecDepth 100000 in
set_option maxHeartbeats 4000000 in
theorem sameAll_any (Ba Bb : Nat) (va vb : Value) (ps qs : List (EvV × Value)) (w : World) (ha : EvsAt w Ba va ps) (hb : EvsAt w Bb vb qs) :
    Calls Tryz.prog 45 #[va, vb] w fun e w' => e = .returned (.bool (decide (ps.map Prod.fst = qs.map Prod.fst))) ∧ Below w.heap.size w w' := by
  obtain ⟨A, ca, rfl, hca, hma⟩ := ha.cap
  obtain ⟨C, cb, rfl, hcb, hmb⟩ := hb.cap
  have HA := Lib.hid ha
  have HB := Lib.hid hb
  unfold maxLen at hma hmb
  have hpI : (ps.length : Int) ≤ 9223372036854775807 := by omega
  have hpc : (ps.length : Int) ≤ (ca : Int) := by omega
  have hqI : (qs.length : Int) ≤ 9223372036854775807 := by omega
  have hqc : (qs.length : Int) ≤ (cb : Int) := by omega
  clear ha hb hca hma hcb hmb
  by_cases hl : ps.length = qs.length
  · skip
    have hlI : (ps.length : Int) = (qs.length : Int) := by omega
    have HL := Lib.hid hl
    obtain ⟨n, hn⟩ : ∃ n, qs.length = n := ⟨_, rfl⟩
    have hpn : ps.length = n := hl.trans hn
    have HPn := Lib.hid hpn
    have HQn := Lib.hid hn
    rw [hpn] at hpI hpc HA ⊢
    rw [hn] at hqI hqc HB ⊢
    clear hl hlI hn hpn
    go_enter Tryz.func45, Tryz.ntmps45
    go_wp2_with fail
    go_loopw [5] (fun i wr => ∃ m : Nat, m ≤ n ∧ i = .int .i64 m ∧ (∀ (j : Nat) (p q : EvV × Value), j < m → ps[j]? = some p → qs[j]? = some q → p.1 = q.1) ∧ Below w.heap.size w wr) (fun i _ => n - (intOf i).toNat)
    case atStart => exact ⟨0, by omega, rfl, fun j p q hj => by omega, Below.refl _ _⟩
    case round =>
      obtain ⟨m, hm, rfl, hj, hbl⟩ := hrel
      have HJ := Lib.hid hj
      have HBl := Lib.hid hbl
      clear hj hbl
      by_cases hml : m < n
      · skip
        obtain ⟨⟨x, V⟩, hx⟩ : ∃ p, ps[m]? = some p := ⟨_, List.getElem?_eq_getElem (by rw [HPn.out]; exact hml)⟩
        obtain ⟨⟨y, U⟩, hy⟩ : ∃ p, qs[m]? = some p := ⟨_, List.getElem?_eq_getElem (by rw [HQn.out]; exact hml)⟩
        obtain ⟨qa, oa, hqa, -⟩ := HA.out.at_ hx
        subst hqa
        obtain ⟨qb, ob, hqb, -⟩ := HB.out.at_ hy
        subst hqb
        obtain ⟨XA, xc, hV⟩ := (HA.out.vals _ (List.mem_of_getElem? hx)).form
        dsimp only at hV
        subst hV
        obtain ⟨YA, yc, hU⟩ := (HB.out.vals _ (List.mem_of_getElem? hy)).form
        dsimp only at hU
        subst hU
        have HX := Lib.hid hx
        have HY := Lib.hid hy
        have hmI : (m : Int) < (n : Int) := by omega
        have hm0 : (0 : Int) ≤ (m : Int) := by omega
        clear hx hy
        go_upto_region 6 with fail
        refine wp_region_noPanic ?_
        refine wp_region_held_drew (S := fun W => EvsAt W Ba (.slice (some ⟨qa, oa, none⟩) n ca) ps ∧ EvsAt W Bb (.slice (some ⟨qb, ob, none⟩) n cb) qs) (by kernel_rfl) ⟨(HA.out.below HBl.out).below (Below.refl _ _).drew, (HB.out.below HBl.out).below (Below.refl _ _).drew⟩ (fun hHeld => ?_)
        have HB3 : Hid (Below w.heap.size w wr.drew) := Lib.hid HBl.out.drew
        generalize wr.drew = W3 at hHeld HB3 ⊢
        have H3 := Lib.hid hHeld
        refine Pl.go [0, 1, 2, 3, 4, 5, 6, 7] ?_
        iterate 8
          refine tkl (v := ?_) ?_ ?_
          rotate_left 1
          · intro W hSw
            obtain ⟨_, _, e1, _, y0, y1, y2, y3, y4, y5⟩ := hSw.1.at_ HX.out; cases e1; obtain ⟨_, _, e2, _, z0, z1, z2, z3, z4, z5⟩ := hSw.2.at_ HY.out; cases e2; dsimp only at y0 y1 y2 y3 y4 y5 z0 z1 z2 z3 z4 z5
            clear hSw
            go_simp
            try with_reducible rfl
          try dsimp only [zS, zB, zC]
        refine Pl.stop ?_
        refine wpAnyH_ready (rs := [8]) (by kernel_rfl) (by simp) ?_
        refine AllReadyH.cons (o := ⟨_, _, _, _, _, _⟩) rfl (fun F hF => ?_) AllReadyH.nil
        go_simp
        refine (evSame_any Ba Bb x y _ _ W3 (H3.out.1.vals (x, _) (List.mem_of_getElem? HX.out)) (H3.out.2.vals (y, _) (List.mem_of_getElem? HY.out))).mono ?_
        rintro e2 w5 ⟨rfl, hb5⟩
        have H5 := Lib.hid (And.intro (H3.out.1.below hb5) (H3.out.2.below hb5))
        have HB5 := Lib.hid (HB3.out.trans (hb5.mono HB3.out.size))
        clear hb5 hHeld
        by_cases hxy : x = y
        · rw [decide_eq_true hxy]
          have HXY := Lib.hid hxy
          clear hxy
          go_wp2_with fail
          refine hF.out _ _ H5.out (fun hHeld => ?_)
          clear hF F
          try simp only [Act.put, zA, zB, zC]
          refine tk 9 (v := ?_) ?_ ?_
          rotate_left 1
          · intro W hSw
            skip
            clear hSw
            go_simp
            try with_reducible rfl
          try dsimp only [zS, zB, zC]
          refine wpAnyH_done (by kernel_rfl) ?_ _
          refine NoPanic.normal ?_
          go_wp2_with fail
          go_roundw
          case rel => exact ⟨m + 1, by omega, by go_num, fun j p q hj hp hq => by
              rcases (by omega : j < m ∨ j = m) with h1 | h1
              · exact HJ.out j p q h1 hp hq
              · subst h1
                rw [HX.out] at hp
                rw [HY.out] at hq
                injection hp with hp
                injection hq with hq
                rw [← hp, ← hq]; exact HXY.out, HB5.out⟩
          case measure => simp [intOf]; omega
        · have HXY := Lib.hid hxy
          have HS : Hid (decide (ps.map Prod.fst = qs.map Prod.fst) = false) := Lib.hid (decide_eq_false (fun h => by
            have h2 := congrArg (fun l => l[m]?) h
            simp only [List.getElem?_map, HX.out, HY.out, Option.map_some, Option.some.injEq] at h2
            exact HXY.out h2))
          rw [decide_eq_false hxy]
          clear hxy
          go_wp2_with fail
          refine hF.out _ _ H5.out (fun hHeld => ?_)
          clear hF F
          try simp only [Act.put, zA, zB, zC]
          refine tk 9 (v := ?_) ?_ ?_
          rotate_left 1
          · intro W hSw
            skip
            clear hSw
            go_simp
            try with_reducible rfl
          try dsimp only [zS, zB, zC]
          refine wpAnyH_done (by kernel_rfl) ?_ _
          refine NoPanic.normal ?_
          go_wp2_with fail
          go_ret
          first | exact ⟨by rw [HS.out]; rfl, HB5.out⟩ | exact ⟨rfl, HB5.out⟩
      · obtain rfl : m = n := by omega
        have HS : Hid (decide (ps.map Prod.fst = qs.map Prod.fst) = true) := Lib.hid (decide_eq_true (by
          refine List.ext_getElem? fun j => ?_
          rw [List.getElem?_map, List.getElem?_map]
          rcases Nat.lt_or_ge j m with h | h
          · obtain ⟨p1, h1⟩ : ∃ p1, ps[j]? = some p1 := ⟨_, List.getElem?_eq_getElem (by rw [HPn.out]; exact h)⟩
            obtain ⟨q1, h2⟩ : ∃ q1, qs[j]? = some q1 := ⟨_, List.getElem?_eq_getElem (by rw [HQn.out]; exact h)⟩
            rw [h1, h2, Option.map_some, Option.map_some, HJ.out j _ _ h h1 h2]
          · rw [List.getElem?_eq_none (by rw [HPn.out]; exact h), List.getElem?_eq_none (by rw [HQn.out]; exact h)]))
        go_wp2_with fail
        go_ret
        first | exact ⟨by rw [HS.out]; rfl, HBl.out⟩ | exact ⟨rfl, HBl.out⟩
  · skip
    have hlI : ¬ (ps.length : Int) = (qs.length : Int) := by omega
    have hlb : ((ps.length : Int) != (qs.length : Int)) = true := by simp [hlI]
    have HS : Hid (decide (ps.map Prod.fst = qs.map Prod.fst) = false) := Lib.hid (decide_eq_false (fun h => hl (by
      have := congrArg List.length h
      simpa using this)))
    go_enter Tryz.func45, Tryz.ntmps45
    go_wp2_with fail
    go_ret
    first | exact ⟨by rw [HS.out]; rfl, Below.refl _ _⟩ | exact ⟨rfl, Below.refl _ _⟩
set_option maxRecDepth 100000 in
set_option maxHeartbeats 4000000 in
theorem equalFunc_any (Ba Bb : Nat) (va vb : Value) (ps qs : List (EvV × Value)) (w : World) (ha : EvsAt w Ba va ps) (hb : EvsAt w Bb vb qs) :
    Calls Tryz.prog 59 #[va, vb, .func (.func 60) #[] #[]] w fun e w' => e = .returned (.bool (decide (ps.map Prod.fst = qs.map Prod.fst))) ∧ Below w.heap.size w w' := by
  obtain ⟨A, ca, rfl, hca, hma⟩ := ha.cap
  obtain ⟨C, cb, rfl, hcb, hmb⟩ := hb.cap
  have HA := Lib.hid ha
  have HB := Lib.hid hb
  unfold maxLen at hma hmb
  have hpI : (ps.length : Int) ≤ 9223372036854775807 := by omega
  have hpc : (ps.length : Int) ≤ (ca : Int) := by omega
  have hqI : (qs.length : Int) ≤ 9223372036854775807 := by omega
  have hqc : (qs.length : Int) ≤ (cb : Int) := by omega
  clear ha hb hca hma hcb hmb
  by_cases hl : ps.length = qs.length
  · skip
    have hlI : (ps.length : Int) = (qs.length : Int) := by omega
    have HL := Lib.hid hl
    obtain ⟨n, hn⟩ : ∃ n, qs.length = n := ⟨_, rfl⟩
    have hpn : ps.length = n := hl.trans hn
    have HPn := Lib.hid hpn
    have HQn := Lib.hid hn
    rw [hpn] at hpI hpc HA ⊢
    rw [hn] at hqI hqc HB ⊢
    clear hl hlI hn hpn
    go_enter Tryz.func59, Tryz.ntmps59
    go_wp2_with fail
    go_loopw [7, 17] (fun _ i wr => ∃ m : Nat, m ≤ n ∧ i = .int .i64 m ∧ (∀ (j : Nat) (p q : EvV × Value), j < m → ps[j]? = some p → qs[j]? = some q → p.1 = q.1) ∧ Below w.heap.size w wr) (fun _ i _ => n - (intOf i).toNat)
    case atStart => exact ⟨0, by omega, rfl, fun j p q hj => by omega, Below.refl _ _⟩
    case round =>
      obtain ⟨m, hm, rfl, hj, hbl⟩ := hrel
      have HJ := Lib.hid hj
      have HBl := Lib.hid hbl
      clear hj hbl
      by_cases hml : m < n
      · skip
        obtain ⟨⟨x, V⟩, hx⟩ : ∃ p, ps[m]? = some p := ⟨_, List.getElem?_eq_getElem (by rw [HPn.out]; exact hml)⟩
        obtain ⟨⟨y, U⟩, hy⟩ : ∃ p, qs[m]? = some p := ⟨_, List.getElem?_eq_getElem (by rw [HQn.out]; exact hml)⟩
        obtain ⟨qa, oa, hqa, -⟩ := HA.out.at_ hx
        subst hqa
        obtain ⟨qb, ob, hqb, -⟩ := HB.out.at_ hy
        subst hqb
        obtain ⟨XA, xc, hV⟩ := (HA.out.vals _ (List.mem_of_getElem? hx)).form
        dsimp only at hV
        subst hV
        obtain ⟨YA, yc, hU⟩ := (HB.out.vals _ (List.mem_of_getElem? hy)).form
        dsimp only at hU
        subst hU
        have HX := Lib.hid hx
        have HY := Lib.hid hy
        have hmI : (m : Int) < (n : Int) := by omega
        have hm0 : (0 : Int) ≤ (m : Int) := by omega
        clear hx hy
        have hA := HA.out.below HBl.out
        have hB := HB.out.below HBl.out
        have HE := Lib.hid (fun o1 o2 => eventEqual_any Ba Bb x y _ _ ((wr.alloc o1).alloc o2) (((hA.vals (x, _) (List.mem_of_getElem? HX.out)).alloc o1).alloc o2) (((hB.vals (y, _) (List.mem_of_getElem? HY.out)).alloc o1).alloc o2))
        obtain ⟨_, _, e1, ⟨hl1, _⟩, y0, y1, y2, y3, y4, y5⟩ := hA.at_ HX.out
        cases e1
        obtain ⟨_, _, e2, ⟨hl2, _⟩, z0, z1, z2, z3, z4, z5⟩ := hB.at_ HY.out
        cases e2
        dsimp only at y0 y1 y2 y3 y4 y5 z0 z1 z2 z3 z4 z5
        unfold evv evc at HE
        clear hA hB
        by_cases hxy : x = y
        · rw [decide_eq_true hxy] at HE
          have HXY := Lib.hid hxy
          clear hxy
          go_wp2_with fail
          refine (HE.out _ _).mono ?_
          rintro e2 w5 ⟨rfl, hb5⟩
          have HB5 := Lib.hid (HBl.out.trans (((below_two wr _ _).trans (hb5.mono (below_two wr _ _).size)).mono HBl.out.size))
          clear hb5 y0 y1 y2 y3 y4 y5 z0 z1 z2 z3 z4 z5 HE hl1 hl2
          go_wp2_with fail
          go_roundw
          case rel => exact ⟨m + 1, by omega, by go_num, fun j p q hj hp hq => by
              rcases (by omega : j < m ∨ j = m) with h1 | h1
              · exact HJ.out j p q h1 hp hq
              · subst h1
                rw [HX.out] at hp
                rw [HY.out] at hq
                injection hp with hp
                injection hq with hq
                rw [← hp, ← hq]; exact HXY.out, HB5.out⟩
          case measure => simp [intOf]; omega
        · rw [decide_eq_false hxy] at HE
          have HXY := Lib.hid hxy
          have HS : Hid (decide (ps.map Prod.fst = qs.map Prod.fst) = false) := Lib.hid (decide_eq_false (fun h => by
            have h2 := congrArg (fun l => l[m]?) h
            simp only [List.getElem?_map, HX.out, HY.out, Option.map_some, Option.some.injEq] at h2
            exact HXY.out h2))
          clear hxy
          go_wp2_with fail
          refine (HE.out _ _).mono ?_
          rintro e2 w5 ⟨rfl, hb5⟩
          have HB5 := Lib.hid (HBl.out.trans (((below_two wr _ _).trans (hb5.mono (below_two wr _ _).size)).mono HBl.out.size))
          clear hb5 y0 y1 y2 y3 y4 y5 z0 z1 z2 z3 z4 z5 HE hl1 hl2
          go_wp2_with fail
          go_ret
          first | exact ⟨by rw [HS.out]; rfl, HB5.out⟩ | exact ⟨rfl, HB5.out⟩
      · obtain rfl : m = n := by omega
        have HS : Hid (decide (ps.map Prod.fst = qs.map Prod.fst) = true) := Lib.hid (decide_eq_true (by
          refine List.ext_getElem? fun j => ?_
          rw [List.getElem?_map, List.getElem?_map]
          rcases Nat.lt_or_ge j m with h | h
          · obtain ⟨p1, h1⟩ : ∃ p1, ps[j]? = some p1 := ⟨_, List.getElem?_eq_getElem (by rw [HPn.out]; exact h)⟩
            obtain ⟨q1, h2⟩ : ∃ q1, qs[j]? = some q1 := ⟨_, List.getElem?_eq_getElem (by rw [HQn.out]; exact h)⟩
            rw [h1, h2, Option.map_some, Option.map_some, HJ.out j _ _ h h1 h2]
          · rw [List.getElem?_eq_none (by rw [HPn.out]; exact h), List.getElem?_eq_none (by rw [HQn.out]; exact h)]))
        go_wp2_with fail
        go_ret
        first | exact ⟨by rw [HS.out]; rfl, HBl.out⟩ | exact ⟨rfl, HBl.out⟩
  · skip
    have hlI : ¬ (ps.length : Int) = (qs.length : Int) := by omega
    have hlb : ((ps.length : Int) != (qs.length : Int)) = true := by simp [hlI]
    have HS : Hid (decide (ps.map Prod.fst = qs.map Prod.fst) = false) := Lib.hid (decide_eq_false (fun h => hl (by
      have := congrArg List.length h
      simpa using this)))
    go_enter Tryz.func59, Tryz.ntmps59
    go_wp2_with fail
    go_ret
    first | exact ⟨by rw [HS.out]; rfl, Below.refl _ _⟩ | exact ⟨rfl, Below.refl _ _⟩
end Go.Proofs.YtbcigelgggimmaaGreatDoor
namespace Go.Proofs.YtbcigelgggimmaaGreatDoor
open Go Go.RowKit
/-- What Same reads. -/
structure SmI (w W : World) (B1 B2 : Nat) (p q : RQ) : Prop where
  ba : Blk W w.heap.size 46 p.c
  bb : Blk W (w.heap.size + 1) 46 q.c
  a : ResAt W B1 p.r p.v1 p.v2 p.v3 p.v4 p.xs
  b : ResAt W B2 q.r q.v1 q.v2 q.v3 q.v4 q.xs
  below : Below w.heap.size w W
theorem SmI.adv {w W W2 : World} {B1 B2 : Nat} {p q : RQ} (h : SmI w W B1 B2 p q) (hb : Below W.heap.size W W2) : SmI w W2 B1 B2 p q :=
  ⟨h.ba.below hb, h.bb.below hb, h.a.keep (KeepB.of_below hb), h.b.keep (KeepB.of_below hb), h.below.trans (hb.mono h.below.size)⟩
theorem resO {W : World} {g : Nat} {q : RQ} (h : Blk W g 46 q.c) : W.cell? ⟨g, 0, none⟩ = some (.int .i64 q.r.op.kind) ∧ W.cell? ⟨g, 1, none⟩ = some (.int .u64 q.r.op.ticks) ∧ W.cell? ⟨g, 2, none⟩ = some (.string q.r.op.key) ∧ W.cell? ⟨g, 3, none⟩ = some (q.v1) ∧ W.cell? ⟨g, 4, none⟩ = some (.int .u64 q.r.op.ttl) ∧ W.cell? ⟨g, 5, none⟩ = some (.int .i64 q.r.op.count) ∧ W.cell? ⟨g, 6, none⟩ = some (.int .i64 q.r.op.bytes) ∧ W.cell? ⟨g, 7, none⟩ = some (.int .i64 q.r.op.cursor) ∧ W.cell? ⟨g, 8, none⟩ = some (.int .u64 q.r.op.birth) :=
  ⟨h.cell 0 _ rfl, h.cell 1 _ rfl, h.cell 2 _ rfl, h.cell 3 _ rfl, h.cell 4 _ rfl, h.cell 5 _ rfl, h.cell 6 _ rfl, h.cell 7 _ rfl, h.cell 8 _ rfl⟩
theorem resP {W : World} {g : Nat} {q : RQ} (h : Blk W g 46 q.c) : W.cell? ⟨g, 9, none⟩ = some (.int .u64 q.r.at_) ∧ W.cell? ⟨g, 10, none⟩ = some (.int .i64 q.r.err) ∧ W.cell? ⟨g, 11, none⟩ = some (.bool q.r.hit) ∧ W.cell? ⟨g, 12, none⟩ = some q.v2 :=
  ⟨h.cell 9 _ rfl, h.cell 10 _ rfl, h.cell 11 _ rfl, h.cell 12 _ rfl⟩
theorem resE {W : World} {g : Nat} {q : RQ} (h : Blk W g 46 q.c) : W.cell? ⟨g, 13, none⟩ = some (.string q.r.ent.key) ∧ W.cell? ⟨g, 14, none⟩ = some q.v3 ∧ W.cell? ⟨g, 15, none⟩ = some (.int .u64 q.r.ent.dl) ∧ W.cell? ⟨g, 16, none⟩ = some (.int .u64 q.r.ent.birth) :=
  ⟨h.cell 13 _ rfl, h.cell 14 _ rfl, h.cell 15 _ rfl, h.cell 16 _ rfl⟩
theorem resC {W : World} {g : Nat} {q : RQ} (h : Blk W g 46 q.c) : W.cell? ⟨g, 17, none⟩ = some (.int .i64 q.r.cursor) ∧ W.cell? ⟨g, 18, none⟩ = some q.v4 :=
  ⟨h.cell 17 _ rfl, h.cell 18 _ rfl⟩
theorem resL {W : World} {g : Nat} {q : RQ} (h : Blk W g 46 q.c) : W.cell? ⟨g, 19, none⟩ = some (.int .i64 q.r.len) ∧ W.cell? ⟨g, 20, none⟩ = some (.int .i64 q.r.cost) :=
  ⟨h.cell 19 _ rfl, h.cell 20 _ rfl⟩
/-- eqR by its parts. -/
theorem eqR_parts (a b : ResV) (q0 q4 q5 q7 : Bool) (h0 : decide (eqO a.op b.op) = q0) (h4 : decide (a.val = b.val) = q4) (h5 : decide (a.ent = b.ent) = q5) (h7 : decide (a.evs = b.evs) = q7) :
    eqR a b = (q0 && (decide (a.at_ = b.at_) && (decide (a.err = b.err) && (decide (a.hit = b.hit) && (q4 && (q5 && (decide (a.cursor = b.cursor) && (q7 && (decide (a.len = b.len) && decide (a.cost = b.cost)))))))))) := by
  rw [← h0, ← h4, ← h5, ← h7]; rfl
set_option maxRecDepth 100000 in
set_option maxHeartbeats 8000000 in
theorem same_any (B1 B2 : Nat) (p q : RQ) (w : World) (hp : ResAt w B1 p.r p.v1 p.v2 p.v3 p.v4 p.xs) (hq : ResAt w B2 q.r q.v1 q.v2 q.v3 q.v4 q.xs) :
    Calls Tryz.prog 19 #[resv p.r p.v1 p.v2 p.v3 p.v4, resv q.r q.v1 q.v2 q.v3 q.v4] w fun e w' => e = .returned (.bool (eqR p.r q.r)) ∧ Below w.heap.size w w' := by
  obtain ⟨a, V1, V2, V3, V4, xs⟩ := p
  obtain ⟨b, U1, U2, U3, U4, ys⟩ := q
  dsimp only at hp hq
  obtain ⟨A1, c1, rfl⟩ := hp.a1.form
  obtain ⟨A2, c2, rfl⟩ := hp.a2.form
  obtain ⟨A3, c3, rfl⟩ := hp.a3.form
  obtain ⟨A4, c4, rfl⟩ := hp.a4.slice
  obtain ⟨D1, d1, rfl⟩ := hq.a1.form
  obtain ⟨D2, d2, rfl⟩ := hq.a2.form
  obtain ⟨D3, d3, rfl⟩ := hq.a3.form
  obtain ⟨D4, d4, rfl⟩ := hq.a4.slice
  obtain ⟨W, hW⟩ : ∃ W, (w.alloc (.cells (resc a (.slice A1 a.op.val.length c1) (.slice A2 a.val.length c2) (.slice A3 a.ent.val.length c3) (.slice A4 xs.length c4)) 46)).alloc (.cells (resc b (.slice D1 b.op.val.length d1) (.slice D2 b.val.length d2) (.slice D3 b.ent.val.length d3) (.slice D4 ys.length d4)) 46) = W := ⟨_, rfl⟩
  have hbe : Below w.heap.size w W := hW ▸ ((Below.refl _ _).alloc (Nat.le_refl _) _).alloc (by simp) _
  have hI : SmI w W B1 B2 ⟨a, .slice A1 a.op.val.length c1, .slice A2 a.val.length c2, .slice A3 a.ent.val.length c3, .slice A4 xs.length c4, xs⟩ ⟨b, .slice D1 b.op.val.length d1, .slice D2 b.val.length d2, .slice D3 b.ent.val.length d3, .slice D4 ys.length d4, ys⟩ :=
    ⟨hW ▸ (Blk.new _ _ _).alloc _, hW ▸ Blk.new2 _ _ _ _, hp.keep (KeepB.of_below hbe), hq.keep (KeepB.of_below hbe), hbe⟩
  have HI := Lib.hid hI
  obtain ⟨q0, hq0⟩ : ∃ q, decide (eqO a.op b.op) = q := ⟨_, rfl⟩
  obtain ⟨q4, hq4⟩ : ∃ q, decide (a.val = b.val) = q := ⟨_, rfl⟩
  obtain ⟨q5, hq5⟩ : ∃ q, decide (a.ent = b.ent) = q := ⟨_, rfl⟩
  obtain ⟨q7, hq7⟩ : ∃ q, decide (a.evs = b.evs) = q := ⟨_, rfl⟩
  have HR := Lib.hid (eqR_parts a b q0 q4 q5 q7 hq0 hq4 hq5 hq7)
  have H0 := Lib.hid hq0
  have H4 := Lib.hid hq4
  have H5 := Lib.hid hq5
  have H7 : Hid (decide (xs.map Prod.fst = ys.map Prod.fst) = q7) := Lib.hid (by rw [hp.evs, hq.evs]; exact hq7)
  clear hq0 hq4 hq5 hq7 hp hq hbe hI
  unfold resv
  unfold resc at hW ⊢
  have HE := Lib.hid (fun W2 h1 h2 => equal_any B1 B2 a.op b.op (.slice A1 a.op.val.length c1) (.slice D1 b.op.val.length d1) W2 h1 h2)
  rw [H0.out] at HE
  unfold opv opc at HE
  go_enter Tryz.func19, Tryz.ntmps19
  go_upto_region 1 with fail
  try rw [hW]
  clear hW
  obtain ⟨x0, x1, x2, x3, x4, x5, x6, x7, x8⟩ := resO HI.out.ba
  obtain ⟨y0, y1, y2, y3, y4, y5, y6, y7, y8⟩ := resO HI.out.bb
  dsimp only at x0 x1 x2 x3 x4 x5 x6 x7 x8 y0 y1 y2 y3 y4 y5 y6 y7 y8
  go_wp2_with fail
  refine (HE.out _ HI.out.a.a1 HI.out.b.a1).mono ?_
  rintro e w1 ⟨rfl, hb1⟩
  have HI1 := Lib.hid (HI.out.adv hb1)
  clear hb1 HI HE x0 x1 x2 x3 x4 x5 x6 x7 x8 y0 y1 y2 y3 y4 y5 y6 y7 y8
  cases q0 with
  | false =>
    have HS : Hid (eqR a b = false) := Lib.hid (by rw [HR.out]; simp [H0])
    clear HR
    go_wp2_with fail
    go_ret
    first | exact ⟨by rw [HS.out]; rfl, HI1.out.below⟩ | exact ⟨by rw [HS.out], HI1.out.below⟩
  | true =>
    obtain ⟨x9, x10, x11, x12⟩ := resP HI1.out.ba
    obtain ⟨y9, y10, y11, y12⟩ := resP HI1.out.bb
    dsimp only at x9 x10 x11 x12 y9 y10 y11 y12
    by_cases h1 : a.at_ = b.at_
    case neg =>
      have g1 : (a.at_ == b.at_) = false := by simp [h1]
      have HS : Hid (eqR a b = false) := Lib.hid (by rw [HR.out]; simp [h1])
      clear HR
      go_wp2_with fail
      go_ret
      first | exact ⟨by rw [HS.out]; rfl, HI1.out.below⟩ | exact ⟨by rw [HS.out], HI1.out.below⟩
    by_cases h2 : a.err = b.err
    case neg =>
      have g1 : (a.at_ == b.at_) = true := by simp [h1]
      have g2 : (a.err == b.err) = false := by simp [h2]
      have HS : Hid (eqR a b = false) := Lib.hid (by rw [HR.out]; simp [h2])
      clear HR
      go_wp2_with fail
      go_ret
      first | exact ⟨by rw [HS.out]; rfl, HI1.out.below⟩ | exact ⟨by rw [HS.out], HI1.out.below⟩
    by_cases h3 : a.hit = b.hit
    case neg =>
      have g1 : (a.at_ == b.at_) = true := by simp [h1]
      have g2 : (a.err == b.err) = true := by simp [h2]
      have g3 : (a.hit == b.hit) = false := by simp [h3]
      have HS : Hid (eqR a b = false) := Lib.hid (by rw [HR.out]; simp [h3])
      clear HR
      go_wp2_with fail
      go_ret
      first | exact ⟨by rw [HS.out]; rfl, HI1.out.below⟩ | exact ⟨by rw [HS.out], HI1.out.below⟩
    have g1 : (a.at_ == b.at_) = true := by simp [h1]
    have g2 : (a.err == b.err) = true := by simp [h2]
    have g3 : (a.hit == b.hit) = true := by simp [h3]
    have HN := Lib.hid (And.intro h1 (And.intro h2 h3))
    clear h1 h2 h3
    have HV := Lib.hid (bytesEqual_any B1 B2 (.slice A2 a.val.length c2) (.slice D2 b.val.length d2) a.val b.val w1 HI1.out.a.a2 HI1.out.b.a2)
    rw [H4.out] at HV
    go_wp2_with fail
    refine HV.out.mono ?_
    rintro e w2 ⟨rfl, rfl⟩
    clear HV g1 g2 g3 x9 x10 x11 x12 y9 y10 y11 y12
    cases q4 with
    | false =>
      have HS : Hid (eqR a b = false) := Lib.hid (by rw [HR.out]; simp [H4])
      clear HR
      go_wp2_with fail
      go_ret
      first | exact ⟨by rw [HS.out]; rfl, HI1.out.below⟩ | exact ⟨by rw [HS.out], HI1.out.below⟩
    | true =>
      obtain ⟨x13, x14, x15, x16⟩ := resE HI1.out.ba
      obtain ⟨y13, y14, y15, y16⟩ := resE HI1.out.bb
      dsimp only at x13 x14 x15 x16 y13 y14 y15 y16
      have HT := Lib.hid (sameEntry_any B1 B2 a.ent b.ent (.slice A3 a.ent.val.length c3) (.slice D3 b.ent.val.length d3) w1 HI1.out.a.a3 HI1.out.b.a3)
      rw [H5.out] at HT
      unfold entv entc at HT
      go_wp2_with fail
      refine HT.out.mono ?_
      rintro e w3 ⟨rfl, hb3⟩
      have HI3 := Lib.hid (HI1.out.adv hb3)
      clear HT hb3 HI1 x13 x14 x15 x16 y13 y14 y15 y16
      cases q5 with
      | false =>
        have HS : Hid (eqR a b = false) := Lib.hid (by rw [HR.out]; simp [H5])
        clear HR
        go_wp2_with fail
        go_ret
        first | exact ⟨by rw [HS.out]; rfl, HI3.out.below⟩ | exact ⟨by rw [HS.out], HI3.out.below⟩
      | true =>
        obtain ⟨x17, x18⟩ := resC HI3.out.ba
        obtain ⟨y17, y18⟩ := resC HI3.out.bb
        dsimp only at x17 x18 y17 y18
        by_cases h6 : a.cursor = b.cursor
        case neg =>
          have g6 : (a.cursor == b.cursor) = false := by simp [h6]
          have HS : Hid (eqR a b = false) := Lib.hid (by rw [HR.out]; simp [h6])
          clear HR
          go_wp2_with fail
          go_ret
          first | exact ⟨by rw [HS.out]; rfl, HI3.out.below⟩ | exact ⟨by rw [HS.out], HI3.out.below⟩
        have g6 : (a.cursor == b.cursor) = true := by simp [h6]
        have HC := Lib.hid h6
        clear h6
        have HF := Lib.hid (equalFunc_any B1 B2 (.slice A4 xs.length c4) (.slice D4 ys.length d4) xs ys w3 HI3.out.a.a4 HI3.out.b.a4)
        rw [H7.out] at HF
        go_wp2_with fail
        refine HF.out.mono ?_
        rintro e w4 ⟨rfl, hb4⟩
        have HI4 := Lib.hid (HI3.out.adv hb4)
        clear HF hb4 HI3 x17 x18 y17 y18 g6
        cases q7 with
        | false =>
          have HS : Hid (eqR a b = false) := Lib.hid (by rw [HR.out]; simp [H7])
          clear HR
          go_wp2_with fail
          go_ret
          first | exact ⟨by rw [HS.out]; rfl, HI4.out.below⟩ | exact ⟨by rw [HS.out], HI4.out.below⟩
        | true =>
          obtain ⟨x19, x20⟩ := resL HI4.out.ba
          obtain ⟨y19, y20⟩ := resL HI4.out.bb
          dsimp only at x19 x20 y19 y20
          by_cases h8 : a.len = b.len
          case neg =>
            have g8 : (a.len == b.len) = false := by simp [h8]
            have HS : Hid (eqR a b = false) := Lib.hid (by rw [HR.out]; simp [h8])
            clear HR
            go_wp2_with fail
            go_ret
            first | exact ⟨by rw [HS.out]; rfl, HI4.out.below⟩ | exact ⟨by rw [HS.out], HI4.out.below⟩
          by_cases h9 : a.cost = b.cost
          case neg =>
            have g8 : (a.len == b.len) = true := by simp [h8]
            have g9 : (a.cost == b.cost) = false := by simp [h9]
            have HS : Hid (eqR a b = false) := Lib.hid (by rw [HR.out]; simp [h9])
            clear HR
            go_wp2_with fail
            go_ret
            first | exact ⟨by rw [HS.out]; rfl, HI4.out.below⟩ | exact ⟨by rw [HS.out], HI4.out.below⟩
          have g8 : (a.len == b.len) = true := by simp [h8]
          have g9 : (a.cost == b.cost) = true := by simp [h9]
          have HS : Hid (eqR a b = true) := Lib.hid (by rw [HR.out]; simp [HN.out.1, HN.out.2.1, HN.out.2.2, HC.out, h8, h9])
          clear h8 h9 HR
          go_wp2_with fail
          go_ret
          first | exact ⟨by rw [HS.out]; rfl, HI4.out.below⟩ | exact ⟨by rw [HS.out], HI4.out.below⟩
set_option maxRecDepth 100000 in
set_option maxHeartbeats 8000000 in
theorem refSame_any (B1 B2 : Nat) (p q : RQ) (w : World) (hp : ResAt w B1 p.r p.v1 p.v2 p.v3 p.v4 p.xs) (hq : ResAt w B2 q.r q.v1 q.v2 q.v3 q.v4 q.xs) :
    Calls Tryz.prog 11 #[resv p.r p.v1 p.v2 p.v3 p.v4, resv q.r q.v1 q.v2 q.v3 q.v4] w fun e w' => e = .returned (.bool (eqR p.r q.r)) ∧ Below w.heap.size w w' := by
  obtain ⟨a, V1, V2, V3, V4, xs⟩ := p
  obtain ⟨b, U1, U2, U3, U4, ys⟩ := q
  dsimp only at hp hq
  obtain ⟨A1, c1, rfl⟩ := hp.a1.form
  obtain ⟨A2, c2, rfl⟩ := hp.a2.form
  obtain ⟨A3, c3, rfl⟩ := hp.a3.form
  obtain ⟨A4, c4, rfl⟩ := hp.a4.slice
  obtain ⟨D1, d1, rfl⟩ := hq.a1.form
  obtain ⟨D2, d2, rfl⟩ := hq.a2.form
  obtain ⟨D3, d3, rfl⟩ := hq.a3.form
  obtain ⟨D4, d4, rfl⟩ := hq.a4.slice
  obtain ⟨W, hW⟩ : ∃ W, (w.alloc (.cells (resc a (.slice A1 a.op.val.length c1) (.slice A2 a.val.length c2) (.slice A3 a.ent.val.length c3) (.slice A4 xs.length c4)) 46)).alloc (.cells (resc b (.slice D1 b.op.val.length d1) (.slice D2 b.val.length d2) (.slice D3 b.ent.val.length d3) (.slice D4 ys.length d4)) 46) = W := ⟨_, rfl⟩
  have hbe : Below w.heap.size w W := hW ▸ ((Below.refl _ _).alloc (Nat.le_refl _) _).alloc (by simp) _
  have hI : SmI w W B1 B2 ⟨a, .slice A1 a.op.val.length c1, .slice A2 a.val.length c2, .slice A3 a.ent.val.length c3, .slice A4 xs.length c4, xs⟩ ⟨b, .slice D1 b.op.val.length d1, .slice D2 b.val.length d2, .slice D3 b.ent.val.length d3, .slice D4 ys.length d4, ys⟩ :=
    ⟨hW ▸ (Blk.new _ _ _).alloc _, hW ▸ Blk.new2 _ _ _ _, hp.keep (KeepB.of_below hbe), hq.keep (KeepB.of_below hbe), hbe⟩
  have HI := Lib.hid hI
  obtain ⟨q0, hq0⟩ : ∃ q, decide (eqO a.op b.op) = q := ⟨_, rfl⟩
  obtain ⟨q4, hq4⟩ : ∃ q, decide (a.val = b.val) = q := ⟨_, rfl⟩
  obtain ⟨q5, hq5⟩ : ∃ q, decide (a.ent = b.ent) = q := ⟨_, rfl⟩
  obtain ⟨q7, hq7⟩ : ∃ q, decide (a.evs = b.evs) = q := ⟨_, rfl⟩
  have HR := Lib.hid (eqR_parts a b q0 q4 q5 q7 hq0 hq4 hq5 hq7)
  have H0 := Lib.hid hq0
  have H4 := Lib.hid hq4
  have H5 := Lib.hid hq5
  have H7 : Hid (decide (xs.map Prod.fst = ys.map Prod.fst) = q7) := Lib.hid (by rw [hp.evs, hq.evs]; exact hq7)
  clear hq0 hq4 hq5 hq7 hp hq hbe hI
  unfold resv
  unfold resc at hW ⊢
  have HE := Lib.hid (fun W2 h1 h2 => refEqual_any B1 B2 a.op b.op (.slice A1 a.op.val.length c1) (.slice D1 b.op.val.length d1) W2 h1 h2)
  rw [H0.out] at HE
  unfold opv opc at HE
  go_enter Tryz.func11, Tryz.ntmps11
  go_upto_region 1 with fail
  try rw [hW]
  clear hW
  obtain ⟨x0, x1, x2, x3, x4, x5, x6, x7, x8⟩ := resO HI.out.ba
  obtain ⟨y0, y1, y2, y3, y4, y5, y6, y7, y8⟩ := resO HI.out.bb
  dsimp only at x0 x1 x2 x3 x4 x5 x6 x7 x8 y0 y1 y2 y3 y4 y5 y6 y7 y8
  go_wp2_with fail
  refine (HE.out _ HI.out.a.a1 HI.out.b.a1).mono ?_
  rintro e w1 ⟨rfl, hb1⟩
  have HI1 := Lib.hid (HI.out.adv hb1)
  clear hb1 HI HE x0 x1 x2 x3 x4 x5 x6 x7 x8 y0 y1 y2 y3 y4 y5 y6 y7 y8
  cases q0 with
  | false =>
    have HS : Hid (eqR a b = false) := Lib.hid (by rw [HR.out]; simp [H0])
    clear HR
    go_wp2_with fail
    go_ret
    first | exact ⟨by rw [HS.out]; rfl, HI1.out.below⟩ | exact ⟨by rw [HS.out], HI1.out.below⟩
  | true =>
    obtain ⟨x9, x10, x11, x12⟩ := resP HI1.out.ba
    obtain ⟨y9, y10, y11, y12⟩ := resP HI1.out.bb
    dsimp only at x9 x10 x11 x12 y9 y10 y11 y12
    by_cases h1 : a.at_ = b.at_
    case neg =>
      have g1 : (a.at_ == b.at_) = false := by simp [h1]
      have HS : Hid (eqR a b = false) := Lib.hid (by rw [HR.out]; simp [h1])
      clear HR
      go_wp2_with fail
      go_ret
      first | exact ⟨by rw [HS.out]; rfl, HI1.out.below⟩ | exact ⟨by rw [HS.out], HI1.out.below⟩
    by_cases h2 : a.err = b.err
    case neg =>
      have g1 : (a.at_ == b.at_) = true := by simp [h1]
      have g2 : (a.err == b.err) = false := by simp [h2]
      have HS : Hid (eqR a b = false) := Lib.hid (by rw [HR.out]; simp [h2])
      clear HR
      go_wp2_with fail
      go_ret
      first | exact ⟨by rw [HS.out]; rfl, HI1.out.below⟩ | exact ⟨by rw [HS.out], HI1.out.below⟩
    by_cases h3 : a.hit = b.hit
    case neg =>
      have g1 : (a.at_ == b.at_) = true := by simp [h1]
      have g2 : (a.err == b.err) = true := by simp [h2]
      have g3 : (a.hit == b.hit) = false := by simp [h3]
      have HS : Hid (eqR a b = false) := Lib.hid (by rw [HR.out]; simp [h3])
      clear HR
      go_wp2_with fail
      go_ret
      first | exact ⟨by rw [HS.out]; rfl, HI1.out.below⟩ | exact ⟨by rw [HS.out], HI1.out.below⟩
    have g1 : (a.at_ == b.at_) = true := by simp [h1]
    have g2 : (a.err == b.err) = true := by simp [h2]
    have g3 : (a.hit == b.hit) = true := by simp [h3]
    have HN := Lib.hid (And.intro h1 (And.intro h2 h3))
    clear h1 h2 h3
    have cva := HI1.out.a.a2.string (P := Tryz.prog) 39 9 Tryz.underlying39 Tryz.underlying5 Tryz.underlying9
    have cvb := HI1.out.b.a2.string (P := Tryz.prog) 39 9 Tryz.underlying39 Tryz.underlying5 Tryz.underlying9
    dsimp only at cva cvb
    cases q4 with
    | false =>
      have g4 : (a.val == b.val) = false := by have := H4.out; simpa using this
      have HS : Hid (eqR a b = false) := Lib.hid (by rw [HR.out]; simp [H4])
      clear HR
      go_wp2_with fail
      go_ret
      first | exact ⟨by rw [HS.out]; rfl, HI1.out.below⟩ | exact ⟨by rw [HS.out], HI1.out.below⟩
    | true =>
      have g4 : (a.val == b.val) = true := by have := H4.out; simpa using this
      obtain ⟨x13, x14, x15, x16⟩ := resE HI1.out.ba
      obtain ⟨y13, y14, y15, y16⟩ := resE HI1.out.bb
      dsimp only at x13 x14 x15 x16 y13 y14 y15 y16
      have HT := Lib.hid (refEntry_any B1 B2 a.ent b.ent (.slice A3 a.ent.val.length c3) (.slice D3 b.ent.val.length d3) w1 HI1.out.a.a3 HI1.out.b.a3)
      rw [H5.out] at HT
      unfold entv entc at HT
      go_wp2_with fail
      refine HT.out.mono ?_
      rintro e w3 ⟨rfl, hb3⟩
      have HI3 := Lib.hid (HI1.out.adv hb3)
      clear HT hb3 HI1 x13 x14 x15 x16 y13 y14 y15 y16 cva cvb g1 g2 g3 g4 x9 x10 x11 x12 y9 y10 y11 y12
      cases q5 with
      | false =>
        have HS : Hid (eqR a b = false) := Lib.hid (by rw [HR.out]; simp [H5])
        clear HR
        go_wp2_with fail
        go_ret
        first | exact ⟨by rw [HS.out]; rfl, HI3.out.below⟩ | exact ⟨by rw [HS.out], HI3.out.below⟩
      | true =>
        obtain ⟨x17, x18⟩ := resC HI3.out.ba
        obtain ⟨y17, y18⟩ := resC HI3.out.bb
        dsimp only at x17 x18 y17 y18
        by_cases h6 : a.cursor = b.cursor
        case neg =>
          have g6 : (a.cursor == b.cursor) = false := by simp [h6]
          have HS : Hid (eqR a b = false) := Lib.hid (by rw [HR.out]; simp [h6])
          clear HR
          go_wp2_with fail
          go_ret
          first | exact ⟨by rw [HS.out]; rfl, HI3.out.below⟩ | exact ⟨by rw [HS.out], HI3.out.below⟩
        have g6 : (a.cursor == b.cursor) = true := by simp [h6]
        have HC := Lib.hid h6
        clear h6
        have HF := Lib.hid (sameAll_any B1 B2 (.slice A4 xs.length c4) (.slice D4 ys.length d4) xs ys w3 HI3.out.a.a4 HI3.out.b.a4)
        rw [H7.out] at HF
        go_wp2_with fail
        refine HF.out.mono ?_
        rintro e w4 ⟨rfl, hb4⟩
        have HI4 := Lib.hid (HI3.out.adv hb4)
        clear HF hb4 HI3 x17 x18 y17 y18 g6
        cases q7 with
        | false =>
          have HS : Hid (eqR a b = false) := Lib.hid (by rw [HR.out]; simp [H7])
          clear HR
          go_wp2_with fail
          go_ret
          first | exact ⟨by rw [HS.out]; rfl, HI4.out.below⟩ | exact ⟨by rw [HS.out], HI4.out.below⟩
        | true =>
          obtain ⟨x19, x20⟩ := resL HI4.out.ba
          obtain ⟨y19, y20⟩ := resL HI4.out.bb
          dsimp only at x19 x20 y19 y20
          by_cases h8 : a.len = b.len
          case neg =>
            have g8 : (a.len == b.len) = false := by simp [h8]
            have HS : Hid (eqR a b = false) := Lib.hid (by rw [HR.out]; simp [h8])
            clear HR
            go_wp2_with fail
            go_ret
            first | exact ⟨by rw [HS.out]; rfl, HI4.out.below⟩ | exact ⟨by rw [HS.out], HI4.out.below⟩
          by_cases h9 : a.cost = b.cost
          case neg =>
            have g8 : (a.len == b.len) = true := by simp [h8]
            have g9 : (a.cost == b.cost) = false := by simp [h9]
            have HS : Hid (eqR a b = false) := Lib.hid (by rw [HR.out]; simp [h9])
            clear HR
            go_wp2_with fail
            go_ret
            first | exact ⟨by rw [HS.out]; rfl, HI4.out.below⟩ | exact ⟨by rw [HS.out], HI4.out.below⟩
          have g8 : (a.len == b.len) = true := by simp [h8]
          have g9 : (a.cost == b.cost) = true := by simp [h9]
          have HS : Hid (eqR a b = true) := Lib.hid (by rw [HR.out]; simp [HN.out.1, HN.out.2.1, HN.out.2.2, HC.out, h8, h9])
          clear h8 h9 HR
          go_wp2_with fail
          go_ret
          first | exact ⟨by rw [HS.out]; rfl, HI4.out.below⟩ | exact ⟨by rw [HS.out], HI4.out.below⟩
end Go.Proofs.YtbcigelgggimmaaGreatDoor
namespace Go.Proofs.YtbcigelgggimmaaGreatDoor
open Go Go.RowKit
theorem run_load_rows {P : Program} {w : World} {f : Operand → Value} {o : Oper} (ty : TypeId) (x : Operand) (ho : o.op = .load ty x) (p : Addr) (hx : f x = .pointer (some p)) (cs : Array Value) (d : TypeDesc) (hc : ∀ j v, cs.toList[j]? = some v → w.cell? (p.add j) = some v)
    (hu : P.underlying ty = some d) (hd : (match d with | .struct _ | .array _ _ => true | _ => false) = true) (hi : (P.info? ty).map (·.size) = some cs.size) :
    (execOp f o).run P w = .ok (.value (.agg cs)) w := by
  have hl : (loadCells p cs.toList.length).run P w = .ok cs.toList.toArray w := run_loadCells_list (P := P) w p cs.toList hc
  have hv : (loadVar ty p).run P w = .ok (.agg cs) w := by
    cases hq : P.info? ty with
    | none => simp [hq] at hi
    | some i =>
      have hs : i.size = cs.size := by simpa [hq] using hi
      have hagg : (isAgg ty).run P w = .ok true w := by
        unfold isAgg
        rw [Sem.run_bind, run_underlying hu w]
        cases d <;> simp_all
      simp only [Array.length_toList, Array.toArray_toList] at hl
      simp [loadVar, Sem.run_bind, hagg, sizeOf, typeInfo, hq, hs, hl]
  unfold execOp
  simp only [ho, hx, Instr.loadAt, Instr.sureAddr, Sem.run_bind, Sem.run_pure, Result.andThen_ok, hv]
/-- Two slices of results. -/
structure DfI (w W : World) (Ba Bb : Nat) (va vb : Value) (ps qs : List RQ) : Prop where
  a : RsAt W Ba va ps
  b : RsAt W Bb vb qs
  below : Below w.heap.size w W
theorem DfI.adv {w W W2 : World} {Ba Bb : Nat} {va vb : Value} {ps qs : List RQ} (h : DfI w W Ba Bb va vb ps qs) (hb : Below W.heap.size W W2) : DfI w W2 Ba Bb va vb ps qs :=
  ⟨h.a.below hb, h.b.below hb, h.below.trans (hb.mono h.below.size)⟩
theorem RsAt.row {w : World} {B q off n cap : Nat} {qs : List RQ} (h : RsAt w B (.slice (some ⟨q, off, none⟩) n cap) qs) {i : Nat} {p : RQ} (hi : qs[i]? = some p) : ∀ j u, (resc p.r p.v1 p.v2 p.v3 p.v4).toList[j]? = some u → w.cell? ((⟨q, off + i * 21, none⟩ : Addr).add j) = some u := fun j u hu => by
  rw [add_plain]
  exact h.cell hi j u (by rw [← Array.getElem?_toList]; exact hu)
def DifRet (ps qs : List RQ) (w : World) (e : Ending) (w' : World) : Prop := ∃ r, e = .returned (.int .i64 r) ∧ DifIs ps qs r ∧ Below w.heap.size w w'
theorem agree_succ {ps qs : List RQ} {k : Nat} {x y : RQ} (h : Agree ps qs k) (hx : ps[k]? = some x) (hy : qs[k]? = some y) (he : eqR x.r y.r = true) : Agree ps qs (k + 1) := fun j a b hj ha hb => by
  rcases (by omega : j < k ∨ j = k) with h1 | h1
  · exact h j a b h1 ha hb
  · subst h1
    rw [hx] at ha
    rw [hy] at hb
    injection ha with ha
    injection hb with hb
    rw [← ha, ← hb]; exact he
theorem apart_here {ps qs : List RQ} {k : Nat} {x y : RQ} (hx : ps[k]? = some x) (hy : qs[k]? = some y) (he : eqR x.r y.r = false) : Apart ps qs k := ⟨.inl (List.getElem?_eq_some_iff.1 hx).1, fun a b ha hb => by
  rw [hx] at ha
  rw [hy] at hb
  injection ha with ha
  injection hb with hb
  rw [← ha, ← hb]; exact he⟩
theorem apart_end {ps qs : List RQ} {k : Nat} (h : (k < ps.length ∧ qs.length ≤ k) ∨ (k < qs.length ∧ ps.length ≤ k)) : Apart ps qs k := ⟨by omega, fun a b ha hb => by
  have h1 := (List.getElem?_eq_some_iff.1 ha).1
  have h2 := (List.getElem?_eq_some_iff.1 hb).1
  omega⟩
set_option maxRecDepth 100000 in
set_option maxHeartbeats 8000000 in
theorem differ_any (Ba Bb : Nat) (va vb : Value) (ps qs : List RQ) (w : World) (ha : RsAt w Ba va ps) (hb : RsAt w Bb vb qs) :
    Calls Tryz.prog 22 #[va, vb] w (DifRet ps qs w) := by
  obtain ⟨A, ca, rfl, hca, hma⟩ := ha.cap
  obtain ⟨C, cb, rfl, hcb, hmb⟩ := hb.cap
  unfold maxLen at hma hmb
  have hnI : (ps.length : Int) ≤ 9223372036854775807 := by omega
  have hnc : (ps.length : Int) ≤ (ca : Int) := by omega
  have hmI : (qs.length : Int) ≤ 9223372036854775807 := by omega
  have hmc : (qs.length : Int) ≤ (cb : Int) := by omega
  obtain ⟨n, hn⟩ : ∃ n, ps.length = n := ⟨_, rfl⟩
  obtain ⟨m, hm⟩ : ∃ m, qs.length = m := ⟨_, rfl⟩
  have HI := Lib.hid (⟨ha, hb, Below.refl _ _⟩ : DfI w w Ba Bb (.slice A ps.length ca) (.slice C qs.length cb) ps qs)
  rw [hn] at HI hnI hnc ⊢
  rw [hm] at HI hmI hmc ⊢
  have HN := Lib.hid hn
  have HM := Lib.hid hm
  clear ha hb hca hcb hma hmb hn hm
  go_enter Tryz.func22, Tryz.ntmps22
  go_wp2_with fail
  go_loopw [5, 11] (fun _ i wr => ∃ k : Nat, k ≤ n ∧ k ≤ m ∧ i = .int .i64 k ∧ Agree ps qs k ∧ DfI w wr Ba Bb (.slice A n ca) (.slice C m cb) ps qs) (fun _ i _ => n + m - (intOf i).toNat)
  case atStart => exact ⟨0, by omega, by omega, rfl, fun j p q hj => by omega, HI.out⟩
  case round =>
    obtain ⟨k, hkn', hkm', rfl, hag, hI⟩ := hrel
    have HIk := Lib.hid hI
    have HAg := Lib.hid hag
    clear hI hag
    by_cases hkn : k < n
    · by_cases hkm : k < m
      · have hmax : (k : Int) < max (n : Int) (m : Int) := by omega
        have hmin : ¬ min (n : Int) (m : Int) ≤ (k : Int) := by omega
        obtain ⟨x, hx⟩ : ∃ p, ps[k]? = some p := ⟨_, List.getElem?_eq_getElem (by rw [HN.out]; exact hkn)⟩
        obtain ⟨y, hy⟩ : ∃ p, qs[k]? = some p := ⟨_, List.getElem?_eq_getElem (by rw [HM.out]; exact hkm)⟩
        obtain ⟨ga, oa, rfl, -⟩ := HIk.out.a.at_ hx
        obtain ⟨gb, ob, rfl, -⟩ := HIk.out.b.at_ hy
        have HX := Lib.hid hx
        have HY := Lib.hid hy
        have HC := Lib.hid (fun W (hW : DfI w W Ba Bb (.slice (some ⟨ga, oa, none⟩) n ca) (.slice (some ⟨gb, ob, none⟩) m cb) ps qs) => same_any Ba Bb x y W (hW.a.vals _ (List.mem_of_getElem? HX.out)) (hW.b.vals _ (List.mem_of_getElem? HY.out)))
        obtain ⟨q, hq⟩ : ∃ q, eqR x.r y.r = q := ⟨_, rfl⟩
        rw [hq] at HC
        have HQ := Lib.hid hq
        have hkI : (k : Int) < (n : Int) := by omega
        have hkI2 : (k : Int) < (m : Int) := by omega
        have hk0 : (0 : Int) ≤ (k : Int) := by omega
        clear hx hy hq
        go_upto_region 4 with fail
        refine wp_region_noPanic ?_
        refine wp_region_held_drew (S := fun W => DfI w W Ba Bb (.slice (some ⟨ga, oa, none⟩) n ca) (.slice (some ⟨gb, ob, none⟩) m cb) ps qs) (by kernel_rfl) (HIk.out.adv (Below.refl _ _).drew) (fun hHeld => ?_)
        refine Pl.go [0, 1, 2, 3, 4, 5, 6, 7, 8, 9, 10] ?_
        iterate 11
          refine tkl (v := ?_) ?_ ?_
          rotate_left 1
          · intro W hSw
            skip
            clear hSw
            go_simp
            try with_reducible rfl
          try dsimp only [zS, zB, zC]
        refine Pl.stop ?_
        refine tk 11 (v := resv x.r x.v1 x.v2 x.v3 x.v4) (fun W hSw => run_load_rows 46 _ rfl ⟨ga, oa + k * 21, none⟩ rfl (resc x.r x.v1 x.v2 x.v3 x.v4) _ (hSw.a.row HX.out) Tryz.underlying46 rfl (by kernel_rfl)) ?_
        try dsimp only [zS, zB, zC]
        refine Pl.go [12, 13, 14] ?_
        iterate 3
          refine tkl (v := ?_) ?_ ?_
          rotate_left 1
          · intro W hSw
            skip
            clear hSw
            go_simp
            try with_reducible rfl
          try dsimp only [zS, zB, zC]
        refine Pl.stop ?_
        refine tk 15 (v := resv y.r y.v1 y.v2 y.v3 y.v4) (fun W hSw => run_load_rows 46 _ rfl ⟨gb, ob + k * 21, none⟩ rfl (resc y.r y.v1 y.v2 y.v3 y.v4) _ (hSw.b.row HY.out) Tryz.underlying46 rfl (by kernel_rfl)) ?_
        try dsimp only [zS, zB, zC]
        have HCw := Lib.hid (HC.out _ hHeld)
        have HH := Lib.hid hHeld
        refine wpAnyH_ready (rs := [16]) (by kernel_rfl) (by simp) ?_
        refine AllReadyH.cons (o := ⟨_, _, _, _, _, _⟩) rfl (fun F hF => ?_) AllReadyH.nil
        go_simp
        refine HCw.out.mono ?_
        rintro e w4 ⟨rfl, hb4⟩
        have HI4 := Lib.hid (HH.out.adv hb4)
        clear hHeld HH HCw hb4
        cases q with
        | true =>
          go_wp2_with fail
          refine hF.out _ _ HI4.out (fun hHeld => ?_)
          clear hF F
          try simp only [Act.put, zA, zB, zC]
          refine Pl.go [17, 18] ?_
          iterate 2
            refine tkl (v := ?_) ?_ ?_
            rotate_left 1
            · intro W hSw
              skip
              clear hSw
              go_simp
              try with_reducible rfl
            try dsimp only [zS, zB, zC]
          refine Pl.stop ?_
          refine wpAnyH_done (by kernel_rfl) ?_ _
          refine NoPanic.normal ?_
          go_wp2_with fail
          go_roundw
          case rel => exact ⟨k + 1, by omega, by omega, by go_num, agree_succ HAg.out HX.out HY.out HQ.out, HI4.out⟩
          case measure => simp [intOf]; omega
        | false =>
          go_wp2_with fail
          refine hF.out _ _ HI4.out (fun hHeld => ?_)
          clear hF F
          try simp only [Act.put, zA, zB, zC]
          refine Pl.go [17, 18] ?_
          iterate 2
            refine tkl (v := ?_) ?_ ?_
            rotate_left 1
            · intro W hSw
              skip
              clear hSw
              go_simp
              try with_reducible rfl
            try dsimp only [zS, zB, zC]
          refine Pl.stop ?_
          refine wpAnyH_done (by kernel_rfl) ?_ _
          refine NoPanic.normal ?_
          go_wp2_with fail
          go_ret
          exact ⟨_, rfl, .inr ⟨k, rfl, by have := HN.out; omega, by have := HM.out; omega, HAg.out, apart_here HX.out HY.out HQ.out⟩, HI4.out.below⟩
      · have hmax : (k : Int) < max (n : Int) (m : Int) := by omega
        have hmin : min (n : Int) (m : Int) ≤ (k : Int) := by omega
        go_upto_region 4 with fail
        refine wp_region_noPanic ?_
        refine wp_region_held_drew (S := fun W => DfI w W Ba Bb (.slice A n ca) (.slice C m cb) ps qs) (by kernel_rfl) (HIk.out.adv (Below.refl _ _).drew) (fun hHeld => ?_)
        refine Pl.go [0, 1, 2, 3, 4, 5, 6, 7] ?_
        iterate 8
          refine tkl (v := ?_) ?_ ?_
          rotate_left 1
          · intro W hSw
            skip
            clear hSw
            go_simp
            try with_reducible rfl
          try dsimp only [zS, zB, zC]
        refine Pl.stop ?_
        refine Pl.go [8, 9, 10, 11, 12, 13, 14, 15, 16, 17] ?_
        iterate 10
          refine skl ?_
          try dsimp only [zS, zB, zC]
        refine Pl.stop ?_
        refine tk 18 (v := ?_) ?_ ?_
        rotate_left 1
        · intro W hSw
          skip
          clear hSw
          go_simp
          try with_reducible rfl
        try dsimp only [zS, zB, zC]
        refine wpAnyH_done (by kernel_rfl) ?_ _
        refine NoPanic.normal ?_
        go_wp2_with fail
        go_ret
        exact ⟨_, rfl, .inr ⟨k, rfl, by have := HN.out; omega, by have := HM.out; omega, HAg.out, apart_end (by have := HN.out; have := HM.out; omega)⟩, hHeld.below⟩
    · by_cases hkm : k < m
      · have hmax : (k : Int) < max (n : Int) (m : Int) := by omega
        have hmin : min (n : Int) (m : Int) ≤ (k : Int) := by omega
        go_upto_region 4 with fail
        refine wp_region_noPanic ?_
        refine wp_region_held_drew (S := fun W => DfI w W Ba Bb (.slice A n ca) (.slice C m cb) ps qs) (by kernel_rfl) (HIk.out.adv (Below.refl _ _).drew) (fun hHeld => ?_)
        refine Pl.go [0, 1, 2, 3, 4, 5, 6, 7] ?_
        iterate 8
          refine tkl (v := ?_) ?_ ?_
          rotate_left 1
          · intro W hSw
            skip
            clear hSw
            go_simp
            try with_reducible rfl
          try dsimp only [zS, zB, zC]
        refine Pl.stop ?_
        refine Pl.go [8, 9, 10, 11, 12, 13, 14, 15, 16, 17] ?_
        iterate 10
          refine skl ?_
          try dsimp only [zS, zB, zC]
        refine Pl.stop ?_
        refine tk 18 (v := ?_) ?_ ?_
        rotate_left 1
        · intro W hSw
          skip
          clear hSw
          go_simp
          try with_reducible rfl
        try dsimp only [zS, zB, zC]
        refine wpAnyH_done (by kernel_rfl) ?_ _
        refine NoPanic.normal ?_
        go_wp2_with fail
        go_ret
        exact ⟨_, rfl, .inr ⟨k, rfl, by have := HN.out; omega, by have := HM.out; omega, HAg.out, apart_end (by have := HN.out; have := HM.out; omega)⟩, hHeld.below⟩
      · have hmax : ¬ (k : Int) < max (n : Int) (m : Int) := by omega
        go_wp2_with fail
        go_ret
        exact ⟨_, rfl, .inl ⟨rfl, by have := HN.out; have := HM.out; omega, by have := HAg.out; rw [HN.out]; rwa [show k = n by omega] at this⟩, HIk.out.below⟩
set_option maxRecDepth 100000 in
set_option maxHeartbeats 8000000 in
theorem refDiffer_any (Ba Bb : Nat) (va vb : Value) (ps qs : List RQ) (w : World) (ha : RsAt w Ba va ps) (hb : RsAt w Bb vb qs) :
    Calls Tryz.prog 23 #[va, vb] w (DifRet ps qs w) := by
  obtain ⟨A, ca, rfl, hca, hma⟩ := ha.cap
  obtain ⟨C, cb, rfl, hcb, hmb⟩ := hb.cap
  unfold maxLen at hma hmb
  have hnI : (ps.length : Int) ≤ 9223372036854775807 := by omega
  have hnc : (ps.length : Int) ≤ (ca : Int) := by omega
  have hmI : (qs.length : Int) ≤ 9223372036854775807 := by omega
  have hmc : (qs.length : Int) ≤ (cb : Int) := by omega
  obtain ⟨n, hn⟩ : ∃ n, ps.length = n := ⟨_, rfl⟩
  obtain ⟨m, hm⟩ : ∃ m, qs.length = m := ⟨_, rfl⟩
  have HI := Lib.hid (⟨ha, hb, Below.refl _ _⟩ : DfI w w Ba Bb (.slice A ps.length ca) (.slice C qs.length cb) ps qs)
  rw [hn] at HI hnI hnc ⊢
  rw [hm] at HI hmI hmc ⊢
  have HN := Lib.hid hn
  have HM := Lib.hid hm
  clear ha hb hca hcb hma hmb hn hm
  go_enter Tryz.func23, Tryz.ntmps23
  go_wp2_with fail
  go_loopw [5] (fun i wr => ∃ k : Nat, k ≤ n ∧ k ≤ m ∧ i = .int .i64 k ∧ Agree ps qs k ∧ DfI w wr Ba Bb (.slice A n ca) (.slice C m cb) ps qs) (fun i _ => n + m - (intOf i).toNat)
  case atStart => exact ⟨0, by omega, by omega, rfl, fun j p q hj => by omega, HI.out⟩
  case round =>
    obtain ⟨k, hkn', hkm', rfl, hag, hI⟩ := hrel
    have HIk := Lib.hid hI
    have HAg := Lib.hid hag
    clear hI hag
    by_cases hkn : k < n
    · by_cases hkm : k < m
      · skip
        obtain ⟨x, hx⟩ : ∃ p, ps[k]? = some p := ⟨_, List.getElem?_eq_getElem (by rw [HN.out]; exact hkn)⟩
        obtain ⟨y, hy⟩ : ∃ p, qs[k]? = some p := ⟨_, List.getElem?_eq_getElem (by rw [HM.out]; exact hkm)⟩
        obtain ⟨ga, oa, rfl, -⟩ := HIk.out.a.at_ hx
        obtain ⟨gb, ob, rfl, -⟩ := HIk.out.b.at_ hy
        have HX := Lib.hid hx
        have HY := Lib.hid hy
        have HC := Lib.hid (fun W (hW : DfI w W Ba Bb (.slice (some ⟨ga, oa, none⟩) n ca) (.slice (some ⟨gb, ob, none⟩) m cb) ps qs) => refSame_any Ba Bb x y W (hW.a.vals _ (List.mem_of_getElem? HX.out)) (hW.b.vals _ (List.mem_of_getElem? HY.out)))
        obtain ⟨q, hq⟩ : ∃ q, eqR x.r y.r = q := ⟨_, rfl⟩
        rw [hq] at HC
        have HQ := Lib.hid hq
        have hkI : (k : Int) < (n : Int) := by omega
        have hkI2 : (k : Int) < (m : Int) := by omega
        have hk0 : (0 : Int) ≤ (k : Int) := by omega
        clear hx hy hq
        have hg1 : ¬ (n : Int) ≤ (k : Int) := by omega
        have hg2 : ¬ (m : Int) ≤ (k : Int) := by omega
        go_upto_region 4 with fail
        refine wp_region_noPanic ?_
        refine wp_region_held_drew (S := fun W => DfI w W Ba Bb (.slice (some ⟨ga, oa, none⟩) n ca) (.slice (some ⟨gb, ob, none⟩) m cb) ps qs) (by kernel_rfl) (HIk.out.adv (Below.refl _ _).drew) (fun hHeld => ?_)
        refine Pl.go [0, 1, 2, 3, 4, 5, 6, 7, 8, 9, 10, 11, 12, 13] ?_
        iterate 14
          refine tkl (v := ?_) ?_ ?_
          rotate_left 1
          · intro W hSw
            skip
            clear hSw
            go_simp
            try with_reducible rfl
          try dsimp only [zS, zB, zC]
        refine Pl.stop ?_
        refine tk 14 (v := resv x.r x.v1 x.v2 x.v3 x.v4) (fun W hSw => run_load_rows 46 _ rfl ⟨ga, oa + k * 21, none⟩ rfl (resc x.r x.v1 x.v2 x.v3 x.v4) _ (hSw.a.row HX.out) Tryz.underlying46 rfl (by kernel_rfl)) ?_
        try dsimp only [zS, zB, zC]
        refine Pl.go [15, 16, 17] ?_
        iterate 3
          refine tkl (v := ?_) ?_ ?_
          rotate_left 1
          · intro W hSw
            skip
            clear hSw
            go_simp
            try with_reducible rfl
          try dsimp only [zS, zB, zC]
        refine Pl.stop ?_
        refine tk 18 (v := resv y.r y.v1 y.v2 y.v3 y.v4) (fun W hSw => run_load_rows 46 _ rfl ⟨gb, ob + k * 21, none⟩ rfl (resc y.r y.v1 y.v2 y.v3 y.v4) _ (hSw.b.row HY.out) Tryz.underlying46 rfl (by kernel_rfl)) ?_
        try dsimp only [zS, zB, zC]
        have HCw := Lib.hid (HC.out _ hHeld)
        have HH := Lib.hid hHeld
        refine wpAnyH_ready (rs := [19]) (by kernel_rfl) (by simp) ?_
        refine AllReadyH.cons (o := ⟨_, _, _, _, _, _⟩) rfl (fun F hF => ?_) AllReadyH.nil
        go_simp
        refine HCw.out.mono ?_
        rintro e w4 ⟨rfl, hb4⟩
        have HI4 := Lib.hid (HH.out.adv hb4)
        clear hHeld HH HCw hb4
        cases q with
        | true =>
          go_wp2_with fail
          refine hF.out _ _ HI4.out (fun hHeld => ?_)
          clear hF F
          try simp only [Act.put, zA, zB, zC]
          refine Pl.go [20, 21] ?_
          iterate 2
            refine tkl (v := ?_) ?_ ?_
            rotate_left 1
            · intro W hSw
              skip
              clear hSw
              go_simp
              try with_reducible rfl
            try dsimp only [zS, zB, zC]
          refine Pl.stop ?_
          refine wpAnyH_done (by kernel_rfl) ?_ _
          refine NoPanic.normal ?_
          go_wp2_with fail
          go_roundw
          case rel => exact ⟨k + 1, by omega, by omega, by go_num, agree_succ HAg.out HX.out HY.out HQ.out, HI4.out⟩
          case measure => simp [intOf]; omega
        | false =>
          go_wp2_with fail
          refine hF.out _ _ HI4.out (fun hHeld => ?_)
          clear hF F
          try simp only [Act.put, zA, zB, zC]
          refine Pl.go [20, 21] ?_
          iterate 2
            refine tkl (v := ?_) ?_ ?_
            rotate_left 1
            · intro W hSw
              skip
              clear hSw
              go_simp
              try with_reducible rfl
            try dsimp only [zS, zB, zC]
          refine Pl.stop ?_
          refine wpAnyH_done (by kernel_rfl) ?_ _
          refine NoPanic.normal ?_
          go_wp2_with fail
          go_ret
          exact ⟨_, rfl, .inr ⟨k, rfl, by have := HN.out; omega, by have := HM.out; omega, HAg.out, apart_here HX.out HY.out HQ.out⟩, HI4.out.below⟩
      · have hkI : (k : Int) < (n : Int) := by omega
        have hg1 : ¬ (n : Int) ≤ (k : Int) := by omega
        have hg2 : (m : Int) ≤ (k : Int) := by omega
        go_upto_region 4 with fail
        refine wp_region_noPanic ?_
        refine wp_region_held_drew (S := fun W => DfI w W Ba Bb (.slice A n ca) (.slice C m cb) ps qs) (by kernel_rfl) (HIk.out.adv (Below.refl _ _).drew) (fun hHeld => ?_)
        refine Pl.go [0, 1, 2, 3, 4, 5, 6, 7, 8, 9, 10] ?_
        iterate 11
          refine tkl (v := ?_) ?_ ?_
          rotate_left 1
          · intro W hSw
            skip
            clear hSw
            go_simp
            try with_reducible rfl
          try dsimp only [zS, zB, zC]
        refine Pl.stop ?_
        refine Pl.go [11, 12, 13, 14, 15, 16, 17, 18, 19, 20] ?_
        iterate 10
          refine skl ?_
          try dsimp only [zS, zB, zC]
        refine Pl.stop ?_
        refine tk 21 (v := ?_) ?_ ?_
        rotate_left 1
        · intro W hSw
          skip
          clear hSw
          go_simp
          try with_reducible rfl
        try dsimp only [zS, zB, zC]
        refine wpAnyH_done (by kernel_rfl) ?_ _
        refine NoPanic.normal ?_
        go_wp2_with fail
        go_ret
        exact ⟨_, rfl, .inr ⟨k, rfl, by have := HN.out; omega, by have := HM.out; omega, HAg.out, apart_end (by have := HN.out; have := HM.out; omega)⟩, hHeld.below⟩
    · by_cases hkm : k < m
      · have hkI : ¬ (k : Int) < (n : Int) := by omega
        have hkI2 : (k : Int) < (m : Int) := by omega
        have hg1 : (n : Int) ≤ (k : Int) := by omega
        go_upto_region 4 with fail
        refine wp_region_noPanic ?_
        refine wp_region_held_drew (S := fun W => DfI w W Ba Bb (.slice A n ca) (.slice C m cb) ps qs) (by kernel_rfl) (HIk.out.adv (Below.refl _ _).drew) (fun hHeld => ?_)
        refine Pl.go [0, 1, 2, 3, 4] ?_
        iterate 5
          refine tkl (v := ?_) ?_ ?_
          rotate_left 1
          · intro W hSw
            skip
            clear hSw
            go_simp
            try with_reducible rfl
          try dsimp only [zS, zB, zC]
        refine Pl.stop ?_
        refine Pl.go [5, 6, 7, 8] ?_
        iterate 4
          refine skl ?_
          try dsimp only [zS, zB, zC]
        refine Pl.stop ?_
        refine Pl.go [9, 10] ?_
        iterate 2
          refine tkl (v := ?_) ?_ ?_
          rotate_left 1
          · intro W hSw
            skip
            clear hSw
            go_simp
            try with_reducible rfl
          try dsimp only [zS, zB, zC]
        refine Pl.stop ?_
        refine Pl.go [11, 12, 13, 14, 15, 16, 17, 18, 19, 20] ?_
        iterate 10
          refine skl ?_
          try dsimp only [zS, zB, zC]
        refine Pl.stop ?_
        refine tk 21 (v := ?_) ?_ ?_
        rotate_left 1
        · intro W hSw
          skip
          clear hSw
          go_simp
          try with_reducible rfl
        try dsimp only [zS, zB, zC]
        refine wpAnyH_done (by kernel_rfl) ?_ _
        refine NoPanic.normal ?_
        go_wp2_with fail
        go_ret
        exact ⟨_, rfl, .inr ⟨k, rfl, by have := HN.out; omega, by have := HM.out; omega, HAg.out, apart_end (by have := HN.out; have := HM.out; omega)⟩, hHeld.below⟩
      · have hkI : ¬ (k : Int) < (n : Int) := by omega
        have hkI2 : ¬ (k : Int) < (m : Int) := by omega
        go_wp2_with fail
        go_ret
        exact ⟨_, rfl, .inl ⟨rfl, by have := HN.out; have := HM.out; omega, by have := HAg.out; rw [HN.out]; rwa [show k = n by omega] at this⟩, HIk.out.below⟩
end Go.Proofs.YtbcigelgggimmaaGreatDoor
namespace Go.Proofs.YtbcigelgggimmaaGreatDoor
open Go Go.RowKit
def LightRet (w : World) (e : Ending) (w' : World) : Prop := ∃ b : Bool, e = .returned (.bool b) ∧ Below w.heap.size w w'
theorem LightRet.no {w w' : World} (b : Bool) (h : Below w.heap.size w w') : LightRet w (.returned (.bool b)) w' := ⟨b, rfl, h⟩
set_option maxRecDepth 100000 in
set_option maxHeartbeats 8000000 in
theorem light_any (Bv : Nat) (lv : Value) (qs : List RQ) (w : World) (h : RsAt w Bv lv qs) :
    Calls Tryz.prog 18 #[lv] w (LightRet w) := by
  obtain ⟨A, cap, rfl, hc, hm⟩ := h.cap
  have HR := Lib.hid h
  unfold maxLen at hm
  have hxI : (qs.length : Int) ≤ 9223372036854775807 := by omega
  have hxc : (qs.length : Int) ≤ (cap : Int) := by omega
  obtain ⟨n, hn⟩ : ∃ n, qs.length = n := ⟨_, rfl⟩
  have HN := Lib.hid hn
  rw [hn] at HR hxI hxc hc ⊢
  clear h hm hn
  go_enter Tryz.func18, Tryz.ntmps18
  go_wp2_with fail
  go_loopw [3] (fun i wr => ∃ (k : Nat), k ≤ n ∧ k ≤ 21 ∧ i = .int .i64 k ∧ Below w.heap.size w wr) (fun i _ => n - (intOf i).toNat)
  case atStart => exact ⟨0, by omega, by omega, rfl, Below.refl _ _⟩
  case round =>
    obtain ⟨k, hk, hk21, rfl, hbl⟩ := hrel
    have HBl := Lib.hid hbl
    clear hbl
    by_cases hkl : k < n
    · have hkI : (k : Int) < (n : Int) := by omega
      by_cases hk2 : k < 21
      · have hk2I : (k : Int) < 21 := by omega
        obtain ⟨⟨r, v1, v2, v3, v4, xs⟩, hq⟩ : ∃ q, qs[k]? = some q := ⟨_, List.getElem?_eq_getElem (by rw [HN.out]; exact hkl)⟩
        have HRw := Lib.hid (HR.out.keep (KeepB.of_below HBl.out))
        obtain ⟨b, off, hA, -⟩ := HRw.out.at_ hq
        subst hA
        have hk0 : (0 : Int) ≤ (k : Int) := by omega
        have HCl : Hid (∀ j u, (resc r v1 v2 v3 v4).toList[j]? = some u → wr.cell? ((⟨b, off + k * 21, none⟩ : Addr).add j) = some u) := Lib.hid (HRw.out.row hq)
        have hrv := HRw.out.vals _ (List.mem_of_getElem? hq)
        dsimp only at hrv
        obtain ⟨A1, c1, rfl⟩ := hrv.a1.form
        obtain ⟨A2, c2, rfl⟩ := hrv.a2.form
        obtain ⟨A3, c3, rfl⟩ := hrv.a3.form
        obtain ⟨A4, c4, rfl⟩ := hrv.a4.slice
        have HRv := Lib.hid hrv
        clear hq hrv
        have HZ : Hid (Blk (wr.alloc (.cells zres 46)) wr.heap.size 46 zres) := Lib.hid (Blk.new wr _ zres)
        go_upto_region 5 with (first | (refine wpList_load_at rfl 46 _ rfl ⟨b, off + k * 21, none⟩ rfl (resc r (.slice A1 r.op.val.length c1) (.slice A2 r.val.length c2) (.slice A3 r.ent.val.length c3) (.slice A4 xs.length c4)) _ HCl.out Tryz.underlying46 rfl (by kernel_rfl) ?_) | (refine wpList_store_row rfl 46 _ _ rfl wr.heap.size (resc r (.slice A1 r.op.val.length c1) (.slice A2 r.val.length c2) (.slice A3 r.ent.val.length c3) (.slice A4 xs.length c4)) rfl rfl 46 _ HZ.out (by kernel_rfl) rfl (resc_one _ _ _ _ _ _ _ _ _ _ _ _ _) ?_))
        rw [← zres_eq]
        obtain ⟨hb9, hk9⟩ := fresh_row (w := wr) (cs := zres) (cs' := resc r (.slice A1 r.op.val.length c1) (.slice A2 r.val.length c2) (.slice A3 r.ent.val.length c3) (.slice A4 xs.length c4)) (t := 46)
        generalize World.setRow _ _ _ = w9 at hb9 hk9 ⊢
        have HB9 := Lib.hid (HBl.out.trans (hb9.mono HBl.out.size))
        have HE9 := Lib.hid (HRv.out.a4.keep (KeepB.of_below hb9))
        have HRb := Lib.hid hk9
        generalize wr.heap.size = gr at HRb ⊢
        clear hb9 hk9 HCl
        have z2 : w9.cell? ⟨gr, 2, none⟩ = some (.string r.op.key) := HRb.out.cell 2 _ rfl
        have z3 : w9.cell? ⟨gr, 3, none⟩ = some (.slice A1 r.op.val.length c1) := HRb.out.cell 3 _ rfl
        obtain ⟨-, -, -, z12, z13, z14, -, -, -, z18, -⟩ := resB HRb.out
        by_cases l1 : (300 : Int) < (r.op.key.size : Int)
        · skip
          go_wp2_with fail
          go_ret
          exact LightRet.no _ HB9.out
        by_cases l2 : (300 : Int) < (r.op.val.length : Int)
        · skip
          go_wp2_with fail
          go_ret
          exact LightRet.no _ HB9.out
        by_cases l3 : (300 : Int) < (r.val.length : Int)
        · skip
          go_wp2_with fail
          go_ret
          exact LightRet.no _ HB9.out
        by_cases l4 : (300 : Int) < (r.ent.key.size : Int)
        · skip
          go_wp2_with fail
          go_ret
          exact LightRet.no _ HB9.out
        by_cases l5 : (300 : Int) < (r.ent.val.length : Int)
        · skip
          go_wp2_with fail
          go_ret
          exact LightRet.no _ HB9.out
        by_cases l6 : (10 : Int) < (xs.length : Int)
        · skip
          go_wp2_with fail
          go_ret
          exact LightRet.no _ HB9.out
        go_wp2_with fail
        obtain ⟨m, hm⟩ : ∃ m, xs.length = m := ⟨_, rfl⟩
        have HM := Lib.hid hm
        rw [hm] at z18 HRb HE9 l6 ⊢
        have hmI : (m : Int) ≤ 10 := by omega
        have HRw9 := Lib.hid HRb.out
        have hmc : (m : Int) ≤ (c4 : Int) := by
          obtain ⟨_, _, e, h2, h3, _⟩ := HE9.out.form
          injection e with _ _ e
          have := HM.out
          omega
        clear z2 z3 z12 z13 z14 z18 hm HRb HZ HRv l1 l2 l3 l4 l5 l6
        go_loopw [5] (fun kk W => ∃ (j : Nat), kk = .int .i64 j ∧ j ≤ m ∧ Below w9.heap.size w9 W) (fun kk _ => m - (intOf kk).toNat)
        case atStart => exact ⟨0, rfl, Nat.zero_le _, Below.refl _ _⟩
        case round =>
          obtain ⟨j, rfl, hj, hbi⟩ := hrel
          have HBi := Lib.hid hbi
          clear hbi
          have hb9 := HRw9.out.below HBi.out
          have z18 := (resB hb9).2.2.2.2.2.2.2.2.2.1
          have HBo := Lib.hid (HB9.out.trans (HBi.out.mono HB9.out.size))
          clear hb9
          by_cases h1 : j < m
          · have h1I : (j : Int) < (m : Int) := by omega
            have hj0 : (0 : Int) ≤ (j : Int) := by omega
            obtain ⟨⟨x, V⟩, hx⟩ : ∃ p, xs[j]? = some p := ⟨_, List.getElem?_eq_getElem (by rw [HM.out]; exact h1)⟩
            have hE := HE9.out.keep (KeepB.of_below HBi.out)
            obtain ⟨VA, vc, hV⟩ := (hE.vals _ (List.mem_of_getElem? hx)).form
            dsimp only at hV
            subst hV
            obtain ⟨b2, off2, rfl, -, -, y1, y2, -⟩ := hE.at_ hx
            dsimp only at y1 y2
            clear hE hx
            by_cases l1 : (300 : Int) < (x.key.size : Int)
            · skip
              go_wp2_with fail
              go_ret
              exact LightRet.no _ HBo.out
            by_cases l2 : (300 : Int) < (x.val.length : Int)
            · skip
              go_wp2_with fail
              go_ret
              exact LightRet.no _ HBo.out
            go_wp2_with fail
            go_roundw
            case rel => exact ⟨j + 1, by go_num, by omega, HBi.out⟩
            case measure => simp [intOf]; omega
          · have h1I : ¬ (j : Int) < (m : Int) := by omega
            go_wp2_with fail
            go_roundw
            case rel => exact ⟨k + 1, by omega, by omega, by go_num, HBo.out⟩
            case measure => simp [intOf]; omega
      · have hk2I : ¬ (k : Int) < 21 := by omega
        go_wp2_with fail
        go_ret
        exact LightRet.no _ HBl.out
    · have hkI : ¬ (k : Int) < (n : Int) := by omega
      go_wp2_with fail
      go_ret
      exact LightRet.no _ HBl.out
end Go.Proofs.YtbcigelgggimmaaGreatDoor
namespace Go.Sy
open Go Go.RowKit
noncomputable def putRs {β : Type} (rs : List (Nat × GV)) : Heap → (Heap → β) → β :=
  List.rec (motive := fun _ => Heap → (Heap → β) → β) (fun H k => k H)
    (fun g _ ih H k => putCells g.2.l .e 0 fun c => frc (len g.2.l) fun m => Q8.set (some (.row g.2.t (fun _ => none) m c true false)) H g.1 fun H => ih H k) rs
noncomputable def sameRs (H : Heap) (rs : List (Nat × GV)) : Prop :=
  List.rec True (fun g _ ih => sameG g.2 (Q8.get H g.1) ∧ ih) rs
noncomputable def runP (P : Program) (O : Orc) (fuel : Nat) (f : FuncId) (args : List AV) (res : AV) (rs : List (Nat × GV)) (nb : Nat) : Prop :=
  putRs rs Q8.e fun H => match (ev P O fuel).ef f args (Nat.add 64 nb) H with
    | .ok v n' H' => (match Nat.ble n' 65536 with | true => v = res ∧ sameRs H' rs | false => False)
    | .er _ => False
noncomputable def hR : List (Nat × GV) → Heap → Heap
  | [], H => H
  | g :: rs, H => hR rs (Q8.upd H g.1 (some (rowG g.2)))
theorem putRs_k {β : Type} (rs : List (Nat × GV)) : ∀ (H : Heap) (k : Heap → β), putRs rs H k = k (hR rs H) := by
  induction rs with
  | nil => intro H k; rfl
  | cons g rs ih =>
    intro H k
    show putCells g.2.l .e 0 (fun c => frc (len g.2.l) fun m => Q8.set (some (.row g.2.t (fun _ => none) m c true false)) H g.1 fun H => putRs rs H k) = _
    rw [putCells_k, frc_eq, Q8.set_k, ih, len_eq]
    rfl
theorem get_hR (rs : List (Nat × GV)) : ∀ (H : Heap) (x : Nat), (∀ g ∈ rs, g.1 < LIM) → x < LIM → Q8.get (hR rs H) x = Q8.get H x ∨ ∃ g ∈ rs, g.1 = x ∧ Q8.get (hR rs H) x = some (rowG g.2) := by
  induction rs with
  | nil => intro H x _ _; exact .inl rfl
  | cons g rs ih =>
    intro H x hl hx
    rcases ih (Q8.upd H g.1 (some (rowG g.2))) x (fun g hg => hl g (List.mem_cons_of_mem _ hg)) hx with h | ⟨y, h1, h2, h3⟩
    · rw [Q8.get_upd _ _ _ _ (hl g List.mem_cons_self) hx] at h
      by_cases he : g.1 = x
      · rw [if_pos he] at h
        exact .inr ⟨g, List.mem_cons_self, he, h⟩
      · rw [if_neg he] at h; exact .inl h
    · exact .inr ⟨y, List.mem_cons_of_mem _ h1, h2, h3⟩
theorem sameRs_at {H : Heap} : ∀ {rs : List (Nat × GV)}, sameRs H rs → ∀ g ∈ rs, sameG g.2 (Q8.get H g.1)
  | [], _, g, hg => by cases hg
  | g' :: rs, h, g, hg => by
    have h : sameG g'.2 (Q8.get H g'.1) ∧ sameRs H rs := h
    rcases List.mem_cons.1 hg with rfl | hg
    · exact h.1
    · exact sameRs_at h.2 g hg
/-- The symbols at first: the program's variables, the arguments' blocks. -/
def sgB (bs : List Nat) : Sg := ⟨fun x => if x < 64 then some x else bs[x - 64]?, fun _ => 0⟩
theorem sgB_some {bs : List Nat} {x b : Nat} (h : (sgB bs).blk x = some b) : (x < 64 ∧ b = x) ∨ (64 ≤ x ∧ x < 64 + bs.length ∧ bs[x - 64]? = some b) := by
  simp only [sgB] at h
  split at h
  · rename_i hx; injection h with h; exact .inl ⟨hx, h.symm⟩
  · rename_i hx
    have := (List.getElem?_eq_some_iff.1 h).1
    exact .inr ⟨by omega, by omega, h⟩
/-- What a run starts from: rows whole, each in a block of its own. -/
structure RowsAt (w : World) (rs : List (Nat × GV)) (bs : List Nat) : Prop where
  good : ∀ g ∈ rs, g.2.Good
  blk : ∀ g ∈ rs, ∃ b, (sgB bs).blk g.1 = some b ∧ w.heap[b]? = some (Obj.cells ⟨g.2.vs⟩ g.2.t (0, 0))
  inj : ∀ g ∈ rs, ∀ g' ∈ rs, ∀ b, (sgB bs).blk g.1 = some b → (sgB bs).blk g'.1 = some b → g.1 = g'.1
  few : bs.length ≤ 1000
section
variable {P : Program}
theorem run_args {O : Orc} (hm : P.follows .mixedOrders = true) (hO : OrcOk P O) {fuel : Nat} {f : FuncId} {args : List AV} {res : AV} {rs : List (Nat × GV)} {bs : List Nat} {Args : List Value} {V : Value}
    {w : World} (hrs : RowsAt w rs bs) (hA : concL (sgB bs) args = some Args) (hV : ∀ s, res.conc s = some V) (h : runP P O fuel f args res rs bs.length) : Calls P f ⟨Args⟩ w fun e w' => e = .returned V ∧ Below w.heap.size w w' := by
  have hL : (65536 : Nat) = LIM := rfl
  have hfew := hrs.few
  have hlt : ∀ g ∈ rs, g.1 < LIM := fun g hg => by
    obtain ⟨b, hb, _⟩ := hrs.blk g hg
    rcases sgB_some hb with ⟨a1, a2⟩ | ⟨a1, a2, a3⟩ <;> omega
  unfold runP at h
  rw [putRs_k] at h
  have hget : ∀ x, x < LIM → Q8.get (hR rs Q8.e) x = none ∨ ∃ g ∈ rs, g.1 = x ∧ Q8.get (hR rs Q8.e) x = some (rowG g.2) := fun x hx => by
    rcases get_hR rs Q8.e x hlt hx with h | h
    · exact .inl (h.trans (Q8.get_e x))
    · exact .inr h
  have hr0 : Rel P (sgB bs) (hR rs Q8.e) w := by
    refine ⟨fun x b hb => ?_, fun g hg => by simp [sgB, hg], fun x A hx hA => ?_, fun x y b hx hy h1 h2 h3 h4 => ?_⟩
    · rcases sgB_some hb with ⟨a1, a2⟩ | ⟨a1, a2, a3⟩ <;> omega
    · rcases hget x hx with h | ⟨g, hg, rfl, h⟩
      · rw [h] at hA; cases hA
      · rw [h] at hA; injection hA with hA; subst hA
        obtain ⟨b, hb, hw⟩ := hrs.blk g hg
        exact ⟨b, _, hb, hw, rowG_good (hrs.good g hg) _ _⟩
    · rcases hget x hx with h | ⟨g, hg, rfl, h⟩
      · exact absurd h h1
      · rcases hget y hy with h' | ⟨g', hg', rfl, h'⟩
        · exact absurd h' h2
        · exact hrs.inj g hg g' hg' b h3 h4
  split at h
  · rename_i v n' H' hev
    split at h
    · rename_i h2
      obtain ⟨h1, h⟩ := h
      subst h1
      refine callsIn_wide.1 (calls_of_ev hm hO hev hA hr0 (fun x h1 _ => ?_) (Nat.le_of_ble_eq_true h2) fun V' s' w' hv hr hs => ?_)
      · have h1 : 64 + bs.length ≤ x := h1
        simp only [sgB]
        rw [if_neg (by omega), List.getElem?_eq_none (by omega)]
      rw [hV] at hv
      injection hv with hv
      subst hv
      refine ⟨rfl, hs.os, hs.tape, hs.output, hs.size, fun k hk => ?_⟩
      have hoff : ∀ x, x < 64 + bs.length → s'.blk x = (sgB bs).blk x := fun x hx => (hs.off x (.inl hx)).1
      by_cases hex : ∃ x, x < LIM ∧ Q8.get (hR rs Q8.e) x ≠ none ∧ (sgB bs).blk x = some k
      · obtain ⟨x, hx, hxn, hxb⟩ := hex
        rcases hget x hx with h' | ⟨g, hg, rfl, h'⟩
        · exact absurd h' hxn
        · have hsm := sameRs_at h g hg
          cases hB : Q8.get H' g.1 with
          | none => rw [hB] at hsm; exact hsm.elim
          | some B =>
            rw [hB] at hsm
            obtain ⟨b, o, b1, b2, b3⟩ := hr.blk g.1 B hx hB
            have hx2 : g.1 < 64 + bs.length := by rcases sgB_some hxb with ⟨a1, a2⟩ | ⟨a1, a2, a3⟩ <;> omega
            rw [hoff g.1 hx2, hxb] at b1
            injection b1 with b1; subst b1
            obtain ⟨b', hb', hw⟩ := hrs.blk g hg
            rw [hxb] at hb'; injection hb' with hb'; subst hb'
            rw [b2, hw, sameG_row (hrs.good g hg) hsm b3]
      · exact hs.frame k hk fun x hx h1 h2 => hex ⟨x, hx, h1, h2⟩
    · cases h
  · cases h
theorem rowsAt_nil (w : World) : RowsAt w [] [] := ⟨by simp, by simp, by simp, by simp⟩
/-- No rows: values alone. -/
theorem run_vals {O : Orc} (hm : P.follows .mixedOrders = true) (hO : OrcOk P O) {fuel : Nat} {f : FuncId} {args : List AV} {res : AV} {Args : List Value} {V : Value}
    (hA : concL (sgB []) args = some Args) (hV : ∀ s, res.conc s = some V) (h : runP P O fuel f args res [] 0) (w : World) : Calls P f ⟨Args⟩ w fun e w' => e = .returned V ∧ Below w.heap.size w w' :=
  run_args hm hO (rowsAt_nil w) hA hV h
/-- The program's variables. -/
theorem rowsAt_globals {w : World} {rs : List (Nat × GV)} (hg : ∀ g ∈ rs, g.2.Good) (hw : ∀ g ∈ rs, g.1 < 64 ∧ w.heap[g.1]? = some (Obj.cells ⟨g.2.vs⟩ g.2.t (0, 0))) : RowsAt w rs [] := by
  refine ⟨hg, fun g h => ⟨g.1, by simp [sgB, (hw g h).1], (hw g h).2⟩, fun g h g' h' b e e' => ?_, by simp⟩
  rcases sgB_some e with ⟨a1, a2⟩ | ⟨a1, a2, a3⟩ <;> rcases sgB_some e' with ⟨b1, b2⟩ | ⟨b1, b2, b3⟩ <;> first | omega | (simp at a2 b2; omega) | (simp at a3) | (simp at b3)
end
/-- Integers in a row. -/
def gInts (k : IntKind) (t : TypeId) (l : List Nat) : GV := ⟨t, l.map fun n => .i k (.ofNat n), l.map fun n => .int k (.ofNat n)⟩
theorem gInts_good (k : IntKind) (t : TypeId) (l : List Nat) : (gInts k t l).Good := by
  refine ⟨fun s => ?_, fun v hv => ?_⟩
  · show concL s (l.map fun n => .i k (.ofNat n)) = some (l.map fun n => .int k (.ofNat n))
    induction l with
    | nil => rfl
    | cons a r ih => exact concL_cons.2 ⟨_, _, rfl, ih, rfl⟩
  · simp only [gInts, List.mem_map] at hv
    obtain ⟨n, _, rfl⟩ := hv
    rfl
def bruijnN : List Nat := [0,1,56,2,57,49,28,3,61,58,42,50,38,29,17,4,62,47,59,36,45,43,51,22,53,39,33,30,24,18,12,5,63,55,48,27,60,41,37,16,46,35,44,21,52,32,23,11,54,26,40,15,34,20,31,10,25,14,19,9,13,8,7,6]
def kindsN : List Nat := [3,1,2,4,5,6,7,8,9,10,11,12,13,14,3,1]
end Go.Sy

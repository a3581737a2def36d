/- A region out of a function's text; the statement of EntrylogHolds that makes three appends in a row. -/
import Derived.Test.YtjjhndhigkhkpaaHoldsM
import Derived.Test.YtjjhndhigkhkpaaAppend
import Derived.Deep.RegionHeldLaw
import Derived.Deep.RegionHeld3
namespace Go.Proofs.Ytjjhndhigkhkpaa
open Go Go.RowKit

/-- The region of a number in a code. -/
def regAt (n : Nat) : Code → Option (Array Oper × Bool)
  | .region id ops b => if id = n then some (ops, b) else none
  | .seq a b => match regAt n a with
    | some x => some x
    | none => regAt n b
  | .cond _ a b => match regAt n a with
    | some x => some x
    | none => regAt n b
  | .block _ c => regAt n c
  | .loop c => regAt n c
  | .scope c => regAt n c
  | .rangeFunc _ _ _ c => regAt n c
  | _ => none

theorem strH_info : (Try.prog.info? 9).map (fun i => (i.zero, i.size, i.bytes)) = some (some (.string ⟨#[]⟩), 1, 16) := by kernel_rfl
theorem u64H_info : (Try.prog.info? 27).map (fun i => (i.zero, i.size, i.bytes)) = some (some (.int .u64 0), 1, 8) := by kernel_rfl

set_option maxRecDepth 100000 in
set_option maxHeartbeats 4000000 in
/-- The statement that makes three appends in a row, whatever order its parts take. -/
theorem three_appends (ops : Array Oper) (b : Bool) (hops : Try.f4.body.bind (regAt 18) = some (ops, b)) (w w2 : World) (lv v : Value) (ls : List ActV) (ps : List (Ent × Value)) (n g : Nat) (KA BA GA : Option Addr) (kc bc gc : Nat) (x1 x2 x3 : List Value) (key : ByteArray) (birth : Int) (a0 a1 a3 a4 : Value)
    (t0 t1 t2 t3 t7 t9 t10 t11 t12 t13 t14 t15 t16 t17 t18 t19 t20 t21 t22 t23 t24 t25 t26 t27 t28 t29 t30 t31 t32 t33 t34 t35 t36 t37 t38 t39 t40 t41 t42 t43 t44 t45 t46 t47 t48 t49 t50 t51 t52 t53 t54 t55 t56 t57 t58 t59 t60 t61 t62 : Value) (rest : List Value) (df : List Deferred) (Q : Exit → Act → World → Prop)
    (hB : HBase w w2 lv (.slice KA n kc) (.slice BA n bc) (.slice GA n gc) v ls ps n n n x1 x2 x3) (hX : Blk w2 g 44 #[a0, a1, .string key, a3, a4, .int .u64 birth]) (hn : n < 60)
    (hQ : ∀ (K' B' G' : Option Addr) (kc' bc' gc' : Nat) (u48 u49 u50 u51 u52 u53 u54 u55 u56 u57 u58 u59 u60 u61 u62 : Value) (w5 : World), HBase w w5 lv (.slice K' (n + 1) kc') (.slice B' (n + 1) bc') (.slice G' (n + 1) gc') v ls ps (n + 1) (n + 1) (n + 1) (x1 ++ [.string key]) (x2 ++ [.int .u64 birth]) (x3 ++ [.bool false]) → Q .normal { tmps := (t0 :: t1 :: t2 :: t3 :: (.slice K' (n + 1) kc') :: (.slice B' (n + 1) bc') :: (.slice G' (n + 1) gc') :: t7 :: (.pointer (some ⟨g, 0, none⟩)) :: t9 :: t10 :: t11 :: t12 :: t13 :: t14 :: t15 :: t16 :: t17 :: t18 :: t19 :: t20 :: t21 :: t22 :: t23 :: t24 :: t25 :: t26 :: t27 :: t28 :: t29 :: t30 :: t31 :: t32 :: t33 :: t34 :: t35 :: t36 :: t37 :: t38 :: t39 :: t40 :: t41 :: t42 :: t43 :: t44 :: t45 :: t46 :: t47 :: u48 :: u49 :: u50 :: u51 :: u52 :: u53 :: u54 :: u55 :: u56 :: u57 :: u58 :: u59 :: u60 :: u61 :: u62 :: rest).toArray, defers := df } w5) :
    (Code.region 18 ops b).wp Try.prog Q { tmps := (t0 :: t1 :: t2 :: t3 :: (.slice KA n kc) :: (.slice BA n bc) :: (.slice GA n gc) :: t7 :: (.pointer (some ⟨g, 0, none⟩)) :: t9 :: t10 :: t11 :: t12 :: t13 :: t14 :: t15 :: t16 :: t17 :: t18 :: t19 :: t20 :: t21 :: t22 :: t23 :: t24 :: t25 :: t26 :: t27 :: t28 :: t29 :: t30 :: t31 :: t32 :: t33 :: t34 :: t35 :: t36 :: t37 :: t38 :: t39 :: t40 :: t41 :: t42 :: t43 :: t44 :: t45 :: t46 :: t47 :: t48 :: t49 :: t50 :: t51 :: t52 :: t53 :: t54 :: t55 :: t56 :: t57 :: t58 :: t59 :: t60 :: t61 :: t62 :: rest).toArray, defers := df } w2 := by
  simp [Try.f4, regAt] at hops
  obtain ⟨rfl, rfl⟩ := hops
  obtain ⟨i1, hi, hy0, hy1, hy2⟩ := info_parts strH_info
  have HJ1 := Lib.hid hi
  have HY10 := Lib.hid hy0
  have HY11 := Lib.hid hy1
  have HY12 := Lib.hid hy2
  clear hi hy0 hy1 hy2
  obtain ⟨i2, hi, hy0, hy1, hy2⟩ := info_parts u64H_info
  have HJ2 := Lib.hid hi
  have HY20 := Lib.hid hy0
  have HY21 := Lib.hid hy1
  have HY22 := Lib.hid hy2
  clear hi hy0 hy1 hy2
  obtain ⟨i3, hi, hy0, hy1, hy2⟩ := info_parts boolI_info
  have HJ3 := Lib.hid hi
  have HY30 := Lib.hid hy0
  have HY31 := Lib.hid hy1
  have HY32 := Lib.hid hy2
  clear hi hy0 hy1 hy2
  have q2 := hX.cell 2 _ rfl
  have q5 := hX.cell 5 _ rfl
  have HB := Lib.hid hB.drew
  have HX := Lib.hid hX.drew
  have HN1 := Lib.hid (blk_apart hX hB.keys (by decide))
  have HN2 := Lib.hid (blk_apart hX hB.births (by decide))
  have HN3 := Lib.hid (blk_apart hX hB.gone (by decide))
  have HL1 := Lib.hid (fun k hk => lt_of_heap (row_block hB.keys (k := k) hk).2.choose_spec)
  have HL2 := Lib.hid (fun k hk => lt_of_heap (row_block hB.births (k := k) hk).2.choose_spec)
  have HQ := Lib.hid hQ
  clear hB hX hQ
  refine wp_region_noPanic ?_
  go_region_held_law (fun w' => w'.cell? ⟨g, 2, none⟩ = some (.string key) ∧ w'.cell? ⟨g, 5, none⟩ = some (.int .u64 birth)) (first | exact ⟨r2, r5⟩ | exact ⟨q2, q5⟩ | exact ⟨Blk.cell (HX.out.alloc _) 2 _ rfl, Blk.cell (HX.out.alloc _) 5 _ rfl⟩ | exact ⟨Blk.cell ((HX.out.alloc _).alloc _) 2 _ rfl, Blk.cell ((HX.out.alloc _).alloc _) 5 _ rfl⟩ | exact ⟨Blk.cell (((HX.out.alloc _).alloc _).alloc _) 2 _ rfl, Blk.cell (((HX.out.alloc _).alloc _).alloc _) 5 _ rfl⟩ | go_keep)
      (first
        | (refine step_append_dst 53 (by rfl) (by rfl) _ _ _ (by rfl) w.heap.size 9 i1 _ 1 16 Try.underlying40 HJ1.out HY10.out HY11.out HY12.out rfl (by decide) _ n x1 (by rfl) (by first | exact HB.out | exact HB.out.alloc _ | exact (HB.out.alloc _).alloc _ | exact ((HB.out.alloc _).alloc _).alloc _ : HBase _ _ _ _ _ _ _ _ _ _ _ _ _ _ _).keys (some ⟨_, 0, none⟩) 1 1 [.string key] (by rfl) (src_one (t := 9) ?_) (by simp [Value.oneCell']) (by unfold maxLen; omega) (by omega) (by have := (by first | exact HB.out | exact HB.out.alloc _ | exact (HB.out.alloc _).alloc _ | exact ((HB.out.alloc _).alloc _).alloc _ : HBase _ _ _ _ _ _ _ _ _ _ _ _ _ _ _).below.size; (try simp at this ⊢); omega) ?_
           · (repeat' first | exact Blk.new _ _ _ | exact Blk.new2 _ _ _ _ | exact Blk.new3 _ _ _ _ _ | exact (Blk.new _ _ _).alloc _ | exact ((Blk.new _ _ _).alloc _).alloc _ | exact (Blk.new2 _ _ _ _).alloc _ | refine Blk.grown ?_ HG4.out (fun e => by have := HL2.out _ e.symm; omega) | refine Blk.grown ?_ HG3.out (fun e => by have := HL1.out _ e.symm; omega) | refine Blk.alloc ?_ _)
           intro v3 w3 hown3 hg3 hat3
           have bx := Blk.grown (by first | exact HX.out | exact HX.out.alloc _ | exact (HX.out.alloc _).alloc _ | exact ((HX.out.alloc _).alloc _).alloc _ : Blk _ _ _ _) hg3 HN1.out
           have r2 := bx.cell 2 _ rfl
           have r5 := bx.cell 5 _ rfl
           have HB := Lib.hid (HBase.toKeys (by first | exact HB.out | exact HB.out.alloc _ | exact (HB.out.alloc _).alloc _ | exact ((HB.out.alloc _).alloc _).alloc _ : HBase _ _ _ _ _ _ _ _ _ _ _ _ _ _ _) hown3 (Only.of_grown hg3))
           have HX := Lib.hid bx
           have hsz3 : w2.heap.size ≤ w3.heap.size := (by have := hg3.size; (try simp at this); omega)
           have HG3 := Lib.hid hg3
           obtain ⟨K3A, K3c, rfl, hy1, hy2⟩ := own_form hown3
           clear bx hown3 hg3 hat3 hy1 hy2)
        | (refine step_append_dst 59 (by rfl) (by rfl) _ _ _ (by rfl) w.heap.size 27 i2 _ 1 8 Try.underlying41 HJ2.out HY20.out HY21.out HY22.out rfl (by decide) _ n x2 (by rfl) (by first | exact HB.out | exact HB.out.alloc _ | exact (HB.out.alloc _).alloc _ | exact ((HB.out.alloc _).alloc _).alloc _ : HBase _ _ _ _ _ _ _ _ _ _ _ _ _ _ _).births (some ⟨_, 0, none⟩) 1 1 [.int .u64 birth] (by rfl) (src_one (t := 27) ?_) (by simp [Value.oneCell']) (by unfold maxLen; omega) (by omega) (by have := (by first | exact HB.out | exact HB.out.alloc _ | exact (HB.out.alloc _).alloc _ | exact ((HB.out.alloc _).alloc _).alloc _ : HBase _ _ _ _ _ _ _ _ _ _ _ _ _ _ _).below.size; (try simp at this ⊢); omega) ?_
           · (repeat' first | exact Blk.new _ _ _ | exact Blk.new2 _ _ _ _ | exact Blk.new3 _ _ _ _ _ | exact (Blk.new _ _ _).alloc _ | exact ((Blk.new _ _ _).alloc _).alloc _ | exact (Blk.new2 _ _ _ _).alloc _ | refine Blk.grown ?_ HG4.out (fun e => by have := HL2.out _ e.symm; omega) | refine Blk.grown ?_ HG3.out (fun e => by have := HL1.out _ e.symm; omega) | refine Blk.alloc ?_ _)
           intro v4 w4 hown4 hg4 hat4
           have bx := Blk.grown (by first | exact HX.out | exact HX.out.alloc _ | exact (HX.out.alloc _).alloc _ | exact ((HX.out.alloc _).alloc _).alloc _ : Blk _ _ _ _) hg4 HN2.out
           have r2 := bx.cell 2 _ rfl
           have r5 := bx.cell 5 _ rfl
           have HB := Lib.hid (HBase.toBirths (by first | exact HB.out | exact HB.out.alloc _ | exact (HB.out.alloc _).alloc _ | exact ((HB.out.alloc _).alloc _).alloc _ : HBase _ _ _ _ _ _ _ _ _ _ _ _ _ _ _) hown4 (Only.of_grown hg4))
           have HX := Lib.hid bx
           have hsz4 : w3.heap.size ≤ w4.heap.size := (by have := hg4.size; (try simp at this); omega)
           have HG4 := Lib.hid hg4
           obtain ⟨B3A, B3c, rfl, hy1, hy2⟩ := own_form hown4
           clear bx hown4 hg4 hat4 hy1 hy2)
        | (refine step_append_dst 62 (by rfl) (by rfl) _ _ _ (by rfl) w.heap.size 4 i3 _ 1 1 Try.underlying42 HJ3.out HY30.out HY31.out HY32.out rfl (by decide) _ n x3 (by rfl) (by first | exact HB.out | exact HB.out.alloc _ | exact (HB.out.alloc _).alloc _ | exact ((HB.out.alloc _).alloc _).alloc _ : HBase _ _ _ _ _ _ _ _ _ _ _ _ _ _ _).gone (some ⟨_, 0, none⟩) 1 1 [.bool false] (by rfl) (src_one (t := 4) ?_) (by simp [Value.oneCell']) (by unfold maxLen; omega) (by omega) (by have := (by first | exact HB.out | exact HB.out.alloc _ | exact (HB.out.alloc _).alloc _ | exact ((HB.out.alloc _).alloc _).alloc _ : HBase _ _ _ _ _ _ _ _ _ _ _ _ _ _ _).below.size; (try simp at this ⊢); omega) ?_
           · (repeat' first | exact Blk.new _ _ _ | exact Blk.new2 _ _ _ _ | exact Blk.new3 _ _ _ _ _ | exact (Blk.new _ _ _).alloc _ | exact ((Blk.new _ _ _).alloc _).alloc _ | exact (Blk.new2 _ _ _ _).alloc _ | refine Blk.grown ?_ HG4.out (fun e => by have := HL2.out _ e.symm; omega) | refine Blk.grown ?_ HG3.out (fun e => by have := HL1.out _ e.symm; omega) | refine Blk.alloc ?_ _)
           intro v5 w5 hown5 hg5 hat5
           have bx := Blk.grown (by first | exact HX.out | exact HX.out.alloc _ | exact (HX.out.alloc _).alloc _ | exact ((HX.out.alloc _).alloc _).alloc _ : Blk _ _ _ _) hg5 HN3.out
           have r2 := bx.cell 2 _ rfl
           have r5 := bx.cell 5 _ rfl
           have HB := Lib.hid (HBase.toGone (by first | exact HB.out | exact HB.out.alloc _ | exact (HB.out.alloc _).alloc _ | exact ((HB.out.alloc _).alloc _).alloc _ : HBase _ _ _ _ _ _ _ _ _ _ _ _ _ _ _) hown5 (Only.of_grown hg5))
           have HX := Lib.hid bx
           have hsz5 : w4.heap.size ≤ w5.heap.size := (by have := hg5.size; (try simp at this); omega)
           have HG5 := Lib.hid hg5
           obtain ⟨G3A, G3c, rfl, hy1, hy2⟩ := own_form hown5
           clear bx hown5 hg5 hat5 hy1 hy2))
  all_goals exact NoPanic.normal (HQ.out _ _ _ _ _ _ _ _ _ _ _ _ _ _ _ _ _ _ _ _ _ _ HB.out)

end Go.Proofs.Ytjjhndhigkhkpaa

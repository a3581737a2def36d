/- RfE, RfF, RfD, SymCB -/
import Derived.Test.YtbcigelgggimmaaGreatDoorMc11
import Derived.Test.YtbcigelgggimmaaGreatDoorMc6
namespace Go.Proofs.YtbcigelgggimmaaGreatDoor
open Go Go.RowKit
set_option maxRecDepth 100000 in
set_option maxHeartbeats 4000000 in
theorem refEqual_any (B1 B2 : Nat) (a b : OpV) (VA VB : Value) (w : World) (ha : Bts w B1 5 VA a.val) (hb : Bts w B2 5 VB b.val) :
    Calls Tryz.prog 21 #[opv a VA, opv b VB] w fun e w' => e = .returned (.bool (decide (eqO a b))) ∧ Below w.heap.size w w' := by
  obtain ⟨AA, ac, rfl⟩ := ha.form
  obtain ⟨AB, bc, rfl⟩ := hb.form
  unfold opv opc
  obtain ⟨W, hW⟩ : ∃ W, (w.alloc (.cells (opc a (.slice AA a.val.length ac)) 41)).alloc (.cells (opc b (.slice AB b.val.length bc)) 41) = W := ⟨_, rfl⟩
  have hbe : Below w.heap.size w W := hW ▸ ((Below.refl _ _).alloc (Nat.le_refl _) _).alloc (by simp) _
  have hba : Blk W w.heap.size 41 (opc a (.slice AA a.val.length ac)) := hW ▸ (Blk.new _ _ _).alloc _
  have hbb : Blk W (w.heap.size + 1) 41 (opc b (.slice AB b.val.length bc)) := hW ▸ Blk.new2 _ _ _ _
  have cva := (ha.below hbe).string (P := Tryz.prog) 39 9 Tryz.underlying39 Tryz.underlying5 Tryz.underlying9
  have cvb := (hb.below hbe).string (P := Tryz.prog) 39 9 Tryz.underlying39 Tryz.underlying5 Tryz.underlying9
  unfold opc at hW
  obtain ⟨z0, z1, z2, z3, z4, z5, z6, z7, z8⟩ := op_cells hba
  obtain ⟨y0, y1, y2, y3, y4, y5, y6, y7, y8⟩ := op_cells hbb
  have HB := Lib.hid hbe
  have hE : ∀ r : Bool, (r = true ↔ (a.kind = b.kind ∧ a.ticks = b.ticks ∧ a.key.toList = b.key.toList ∧ a.val = b.val ∧ a.ttl = b.ttl ∧ a.count = b.count ∧ a.bytes = b.bytes ∧ a.cursor = b.cursor ∧ a.birth = b.birth)) → decide (eqO a b) = r := fun r hr => by
    have hk : a.key.toList = b.key.toList ↔ a.key = b.key := ⟨fun e => by rw [ByteArray.toList_eq, ByteArray.toList_eq] at e; exact WideShapes.bytes_inj e, fun e => by rw [e]⟩
    rw [hk] at hr
    cases r with
    | true => exact decide_eq_true (hr.1 rfl)
    | false => exact decide_eq_false fun h => by have := hr.2 h; cases this
  have HE := Lib.hid hE
  clear hE
  clear hbe hba hbb ha hb
  go_enter Tryz.func21, Tryz.ntmps21
  go_upto_region 1 with fail
  try rw [hW]
  clear hW
  go_wp2_with fail
  all_goals go_ret
  all_goals exact ⟨congrArg (fun r => Ending.returned (Value.bool r)) (HE.out _ (by simp_all)).symm, HB.out⟩
end Go.Proofs.YtbcigelgggimmaaGreatDoor
namespace Go.Proofs.YtbcigelgggimmaaGreatDoor
open Go Go.RowKit
structure EqL (w W : World) (Ba Bb : Nat) (va vb : Value) (xs ys : List (OpV × Value)) : Prop where
  a : OpsAt W Ba va xs
  b : OpsAt W Bb vb ys
  below : Below w.heap.size w W
theorem EqL.adv {w W W2 : World} {Ba Bb : Nat} {va vb : Value} {xs ys : List (OpV × Value)} (h : EqL w W Ba Bb va vb xs ys) (hb : Below W.heap.size W W2) : EqL w W2 Ba Bb va vb xs ys :=
  ⟨h.a.below hb, h.b.below hb, h.below.trans (hb.mono h.below.size)⟩
theorem OpsAt.atI {w : World} {B g off n cap i : Nat} {o : OpV} {V : Value} {ps : List (OpV × Value)} (h : OpsAt w B (.slice (some ⟨g, off, none⟩) n cap) ps) (hi : ps[i]? = some (o, V)) :
    w.cell? ⟨g, off + i * 9, none⟩ = some (.int .i64 o.kind) ∧ w.cell? ⟨g, off + i * 9 + 1, none⟩ = some (.int .u64 o.ticks) ∧ w.cell? ⟨g, off + i * 9 + 2, none⟩ = some (.string o.key) ∧ w.cell? ⟨g, off + i * 9 + 3, none⟩ = some V ∧ w.cell? ⟨g, off + i * 9 + 4, none⟩ = some (.int .u64 o.ttl) ∧ w.cell? ⟨g, off + i * 9 + 5, none⟩ = some (.int .i64 o.count) ∧ w.cell? ⟨g, off + i * 9 + 6, none⟩ = some (.int .i64 o.bytes) ∧ w.cell? ⟨g, off + i * 9 + 7, none⟩ = some (.int .i64 o.cursor) ∧ w.cell? ⟨g, off + i * 9 + 8, none⟩ = some (.int .u64 o.birth) := by
  obtain ⟨gx, ox, ex, -, hz⟩ := h.at_ hi
  injection ex with ex
  injection ex with ex1 ex2
  subst ex1 ex2
  exact hz
set_option maxRecDepth 100000 in
set_option maxHeartbeats 4000000 in
theorem ops26_any (Ba Bb : Nat) (va vb : Value) (xs ys : List (OpV × Value)) (w : World) (ha : OpsAt w Ba va xs) (hb : OpsAt w Bb vb ys) (hla : xs.length ≤ 1000000) (_hlb : ys.length ≤ 1000000) :
    Calls Tryz.prog 47 #[va, vb] w fun e w' => (∃ r, e = .returned (.bool r) ∧ (r = true ↔ xs.map Prod.fst = ys.map Prod.fst)) ∧ Below w.heap.size w w' := by
  obtain ⟨AA, ac, rfl⟩ := ha.slice
  obtain ⟨AB, bc, rfl⟩ := hb.slice
  have HE := Lib.hid (⟨ha, hb, Below.refl _ _⟩ : EqL w w Ba Bb (.slice AA xs.length ac) (.slice AB ys.length bc) xs ys)
  clear ha hb
  by_cases hl : xs.length = ys.length
  · obtain ⟨n, hn⟩ : ∃ n, ys.length = n := ⟨_, rfl⟩
    rw [hl, hn] at HE ⊢
    rw [hn] at hl _hlb
    have HNa := Lib.hid hl
    have HNb := Lib.hid hn
    have hnI : (n : Int) ≤ 1000000 := by omega
    clear hl hn hla _hlb
    go_enter Tryz.func47, Tryz.ntmps47
    go_wp2_with fail
    go_loopw [5] (fun i wr => ∃ (m : Nat), m ≤ n ∧ i = .int .i64 m ∧ (xs.map Prod.fst).take m = (ys.map Prod.fst).take m ∧ EqL w wr Ba Bb (.slice AA n ac) (.slice AB n bc) xs ys) (fun i _ => n - (intOf i).toNat)
    case atStart => exact ⟨0, by omega, rfl, by simp, HE.out⟩
    case round =>
      obtain ⟨m, hm, rfl, ht, hI⟩ := hrel
      have HI := Lib.hid hI
      have HT := Lib.hid ht
      clear ht
      by_cases hml : m < n
      · obtain ⟨⟨o, V⟩, hp⟩ : ∃ p, xs[m]? = some p := ⟨_, List.getElem?_eq_getElem (by have := HNa.out; omega)⟩
        obtain ⟨⟨o2, V2⟩, hq⟩ : ∃ p, ys[m]? = some p := ⟨_, List.getElem?_eq_getElem (by have := HNb.out; omega)⟩
        have hv1 := hI.a.vals _ (List.mem_of_getElem? hp)
        have hv2 := hI.b.vals _ (List.mem_of_getElem? hq)
        obtain ⟨VA, vc, e1⟩ := hv1.form
        obtain ⟨VB, vd, e2⟩ := hv2.form
        dsimp only at hv1 hv2 e1 e2
        subst e1 e2
        obtain ⟨ga, oa, rfl, hga, -⟩ := hI.a.at_ hp
        obtain ⟨gb, ob, rfl, hgb, -⟩ := hI.b.at_ hq
        have HP := Lib.hid hp
        have HQ := Lib.hid hq
        have hmI : (m : Int) < (n : Int) := by omega
        have HCall := Lib.hid (fun W (hW : EqL w W Ba Bb (.slice (some ⟨ga, oa, none⟩) n ac) (.slice (some ⟨gb, ob, none⟩) n bc) xs ys) => refEqual_any Ba Bb o o2 (.slice VA o.val.length vc) (.slice VB o2.val.length vd) W (hW.a.vals _ (List.mem_of_getElem? hp)) (hW.b.vals _ (List.mem_of_getElem? hq)))
        unfold opv opc at HCall
        clear hp hq hv1 hv2 hI hga hgb
        go_upto_region 6 with fail
        refine wp_region_noPanic ?_
        refine wp_region_held_drew (S := fun W => EqL w W Ba Bb (.slice (some ⟨ga, oa, none⟩) n ac) (.slice (some ⟨gb, ob, none⟩) n bc) xs ys) (by kernel_rfl) (HI.out.adv (Below.refl _ _).drew) (fun hHeld => ?_)
        refine tk 0 (v := ?_) ?_ ?_
        rotate_left 1
        · intro W hSw
          obtain ⟨z0, z1, z2, z3, z4, z5, z6, z7, z8⟩ := hSw.a.atI HP.out; obtain ⟨y0, y1, y2, y3, y4, y5, y6, y7, y8⟩ := hSw.b.atI HQ.out
          clear hSw
          go_simp
          try with_reducible rfl
        try dsimp only [zS, zB, zC]
        refine tk 1 (v := ?_) ?_ ?_
        rotate_left 1
        · intro W hSw
          obtain ⟨z0, z1, z2, z3, z4, z5, z6, z7, z8⟩ := hSw.a.atI HP.out; obtain ⟨y0, y1, y2, y3, y4, y5, y6, y7, y8⟩ := hSw.b.atI HQ.out
          clear hSw
          go_simp
          try with_reducible rfl
        try dsimp only [zS, zB, zC]
        refine tk 2 (v := ?_) ?_ ?_
        rotate_left 1
        · intro W hSw
          obtain ⟨z0, z1, z2, z3, z4, z5, z6, z7, z8⟩ := hSw.a.atI HP.out; obtain ⟨y0, y1, y2, y3, y4, y5, y6, y7, y8⟩ := hSw.b.atI HQ.out
          clear hSw
          go_simp
          try with_reducible rfl
        try dsimp only [zS, zB, zC]
        refine tk 3 (v := ?_) ?_ ?_
        rotate_left 1
        · intro W hSw
          obtain ⟨z0, z1, z2, z3, z4, z5, z6, z7, z8⟩ := hSw.a.atI HP.out; obtain ⟨y0, y1, y2, y3, y4, y5, y6, y7, y8⟩ := hSw.b.atI HQ.out
          clear hSw
          go_simp
          try with_reducible rfl
        try dsimp only [zS, zB, zC]
        refine tk 4 (v := ?_) ?_ ?_
        rotate_left 1
        · intro W hSw
          obtain ⟨z0, z1, z2, z3, z4, z5, z6, z7, z8⟩ := hSw.a.atI HP.out; obtain ⟨y0, y1, y2, y3, y4, y5, y6, y7, y8⟩ := hSw.b.atI HQ.out
          clear hSw
          go_simp
          try with_reducible rfl
        try dsimp only [zS, zB, zC]
        refine tk 5 (v := ?_) ?_ ?_
        rotate_left 1
        · intro W hSw
          obtain ⟨z0, z1, z2, z3, z4, z5, z6, z7, z8⟩ := hSw.a.atI HP.out; obtain ⟨y0, y1, y2, y3, y4, y5, y6, y7, y8⟩ := hSw.b.atI HQ.out
          clear hSw
          go_simp
          try with_reducible rfl
        try dsimp only [zS, zB, zC]
        refine tk 6 (v := ?_) ?_ ?_
        rotate_left 1
        · intro W hSw
          obtain ⟨z0, z1, z2, z3, z4, z5, z6, z7, z8⟩ := hSw.a.atI HP.out; obtain ⟨y0, y1, y2, y3, y4, y5, y6, y7, y8⟩ := hSw.b.atI HQ.out
          clear hSw
          go_simp
          try with_reducible rfl
        try dsimp only [zS, zB, zC]
        refine tk 7 (v := ?_) ?_ ?_
        rotate_left 1
        · intro W hSw
          obtain ⟨z0, z1, z2, z3, z4, z5, z6, z7, z8⟩ := hSw.a.atI HP.out; obtain ⟨y0, y1, y2, y3, y4, y5, y6, y7, y8⟩ := hSw.b.atI HQ.out
          clear hSw
          go_simp
          try with_reducible rfl
        try dsimp only [zS, zB, zC]
        obtain ⟨q, hq⟩ : ∃ q, decide (eqO o o2) = q := ⟨_, rfl⟩
        have HQq := Lib.hid hq
        have HC := Lib.hid (HCall.out _ hHeld)
        rw [hq] at HC
        clear hq
        refine wpAnyH_ready (rs := [8]) (by kernel_rfl) (by simp) ?_
        refine AllReadyH.cons (o := ⟨_, _, _, _, _, _⟩) rfl (fun F hF => ?_) AllReadyH.nil
        go_simp
        refine HC.out.mono ?_
        rintro e w4 ⟨rfl, hb4⟩
        have HI4 := Lib.hid (hHeld.adv hb4)
        clear hHeld HC hb4
        go_wp2_with fail
        refine hF.out _ _ HI4.out (fun hHeld => ?_)
        clear hF F
        try simp only [Act.put, zA, zB, zC]
        cases q with
        | false =>
          refine tk 9 (v := ?_) ?_ ?_
          rotate_left 1
          · intro W hSw
            obtain ⟨z0, z1, z2, z3, z4, z5, z6, z7, z8⟩ := hSw.a.atI HP.out; obtain ⟨y0, y1, y2, y3, y4, y5, y6, y7, y8⟩ := hSw.b.atI HQ.out
            clear hSw
            go_simp
            try with_reducible rfl
          try dsimp only [zS, zB, zC]
          refine wpAnyH_done (by kernel_rfl) ?_ _
          refine NoPanic.normal ?_
          have hne : o ≠ o2 := by have := HQq.out; rw [decide_eq_false_iff_not, eqO_iff] at this; exact this
          have HNe := Lib.hid hne
          have H9 := Lib.hid hHeld
          clear hne hHeld
          go_wp2_with fail
          go_ret
          refine ⟨⟨false, rfl, ?_⟩, H9.out.below⟩
          constructor
          · intro h; cases h
          · intro h
            exfalso
            have h1 : (xs.map Prod.fst)[m]? = (ys.map Prod.fst)[m]? := by rw [h]
            rw [List.getElem?_map, List.getElem?_map, HP.out, HQ.out] at h1
            simp only [Option.map_some] at h1
            injection h1 with h1
            exact HNe.out h1
        | true =>
          refine tk 9 (v := ?_) ?_ ?_
          rotate_left 1
          · intro W hSw
            obtain ⟨z0, z1, z2, z3, z4, z5, z6, z7, z8⟩ := hSw.a.atI HP.out; obtain ⟨y0, y1, y2, y3, y4, y5, y6, y7, y8⟩ := hSw.b.atI HQ.out
            clear hSw
            go_simp
            try with_reducible rfl
          try dsimp only [zS, zB, zC]
          refine wpAnyH_done (by kernel_rfl) ?_ _
          refine NoPanic.normal ?_
          have heq : o = o2 := by have := HQq.out; rw [decide_eq_true_iff, eqO_iff] at this; exact this
          have HEq := Lib.hid heq
          have H9 := Lib.hid hHeld
          clear heq hHeld
          go_wp2_with fail
          go_roundw
          case rel =>
            refine ⟨m + 1, by omega, by go_num, ?_, H9.out⟩
            rw [List.take_add_one, List.take_add_one, HT.out, List.getElem?_map, List.getElem?_map, HP.out, HQ.out]
            simp only [Option.map_some]
            rw [HEq.out]
          case measure => simp [intOf]; omega
      · obtain rfl : m = n := by omega
        have hmI : ¬ (m : Int) < (m : Int) := by omega
        clear hI
        go_wp2_with fail
        go_ret
        have ht := HT.out
        rw [List.take_of_length_le (by rw [List.length_map]; exact Nat.le_of_eq HNa.out), List.take_of_length_le (by rw [List.length_map]; exact Nat.le_of_eq HNb.out)] at ht
        exact ⟨.inr ⟨rfl, ht⟩, HI.out.below⟩
  · have hlI : ¬ (xs.length : Int) = (ys.length : Int) := by omega
    have hlB : ((xs.length : Int) != (ys.length : Int)) = true := by rw [bne_iff_ne]; exact hlI
    go_enter Tryz.func47, Tryz.ntmps47
    go_wp2_with fail
    go_ret
    refine ⟨⟨false, rfl, ?_⟩, Below.refl _ _⟩
    constructor
    · intro h; cases h
    · intro h
      exfalso
      have := congrArg List.length h
      rw [List.length_map, List.length_map] at this
      exact hl this
end Go.Proofs.YtbcigelgggimmaaGreatDoor
namespace Go.Proofs.YtbcigelgggimmaaGreatDoor
open Go Go.RowKit
def RPRet (B : Nat) (bs : List UInt8) (w : World) (e : Ending) (w' : World) : Prop :=
  ∃ v ps, e = .returned v ∧ ps.map Prod.fst = rdOps bs ∧ OpsOwn w' w.heap.size B v ps ∧ Below w.heap.size w w'
structure PrI (w wr : World) (B : Nat) (b v : Value) (ps : List (OpV × Value)) (bs r : List UInt8) : Prop where
  src : Bts wr B 5 b r
  out : OpsOwn wr w.heap.size B v ps
  eq : ps.map Prod.fst ++ rdOps r = rdOps bs
  below : Below w.heap.size w wr
  len : r.length ≤ bs.length
theorem PrI.step {w wr W W8 : World} {B : Nat} {b b2 v v8 V : Value} {ps : List (OpV × Value)} {bs r : List UInt8} {o1 o2 : Obj} (h : PrI w wr B b v ps bs r) (hB : B ≤ w.heap.size) (hr : 0 < r.length)
    (hV : Bts W B 5 V (rdOp r).1.val) (hb : Below wr.heap.size wr W) (hsrc : ∀ W', KeepB B 5 wr W' → Bts W' B 5 b2 (rdOp r).2)
    (hown : W8.ownsRow w.heap.size 41 9 v8 (ps.length + 1) (ocs ps ++ opcs (rdOp r).1 V)) (hg : ((W.alloc o1).alloc o2).grownBy W8 v.ownBlock) : PrI w W8 B b2 v8 (ps ++ [((rdOp r).1, V)]) bs (rdOp r).2 := by
  have hrow : ∀ k, v.ownBlock = some k → w.heap.size ≤ k ∧ ∃ cur, wr.heap[k]? = some (.cells cur 41 (0, 0)) := fun k hk => row_heap h.out.row hk
  have hW : Below w.heap.size w W := h.below.trans (hb.mono h.below.size)
  have hA : Only (fun k => v.ownBlock = some k) W W8 := (((Only.refl _ W).alloc o1).alloc o2).trans (Only.of_grown hg) (fun _ _ e => e)
  have hne : ∀ k, v.ownBlock = some k → ∃ cur, W.heap[k]? = some (.cells cur 41 (0, 0)) := fun k hk => by
    obtain ⟨_, cur, hc⟩ := hrow k hk
    exact ⟨cur, (hb.block k (lt_of_heap hc)).trans hc⟩
  have hk1 : KeepB B 5 wr W := KeepB.of_below hb
  have hk2 : KeepB B 5 W W8 := KeepB.of_only hA fun k hk e => ⟨by have := (hrow k e).1; omega, fun c fr hc => by
    obtain ⟨cur, h2⟩ := hne k e
    rw [h2] at hc
    injection hc with hc
    injection hc with _ ht
    exact absurd ht (by decide)⟩
  refine ⟨hsrc _ (hk1.trans hk2), ⟨?_, ?_, ?_⟩, ?_, hW.trans (hA.below (fun i hi _ e => by have := (hrow i e).1; omega) hW.size), ?_⟩
  · rw [List.length_append, List.length_singleton, ocs_append, show ocs [((rdOp r).1, V)] = opcs (rdOp r).1 V by simp [ocs]]
    exact hown
  · intro p hp
    rcases List.mem_append.1 hp with hp | hp
    · exact ((h.out.vals p hp).keep hk1).keep hk2
    · have e := List.mem_singleton.1 hp
      subst e
      exact hV.keep hk2
  · intro p hp
    rcases List.mem_append.1 hp with hp | hp
    · exact h.out.wf p hp
    · have e := List.mem_singleton.1 hp
      subst e
      exact rdOp_ticks r
  · rw [← h.eq, rdOps_cons r hr]; simp
  · have := rdOp_len r hr; have := h.len; omega
theorem size_bytes (w : World) : (sizeOf (Tryz.prog.elem 39)).run Tryz.prog w = .ok 1 w := by kernel_rfl
theorem src_op2 (w : World) (ob : Obj) (o : OpV) (V : Value) : Src ((w.alloc ob).alloc (.cells (opc o V) 41)) 9 (some ⟨w.heap.size + 1, 0, none⟩) 1 (opcs o V) := by
  have := src_op (w.alloc ob) o V
  rwa [World.size_alloc] at this
set_option maxRecDepth 100000 in
set_option maxHeartbeats 4000000 in
theorem refParse_any (B : Nat) (V0 : Value) (bs : List UInt8) (w : World) (hv : Bts w B 5 V0 bs) (hB : B ≤ w.heap.size) (hl : bs.length ≤ 5000) :
    Calls Tryz.prog 13 #[V0] w (RPRet B bs w) := by
  obtain ⟨i0, hi0, hz0, hz1, hz2⟩ := info_parts op_info
  obtain ⟨A, cap, rfl⟩ := hv.form
  have HV := Lib.hid hv
  have HS := Lib.hid hB
  have HL := Lib.hid hl
  have hN := rdOps_len bs.length bs (Nat.le_refl _)
  have HN := Lib.hid hN
  clear hv hB hl hN
  go_enter Tryz.func13, Tryz.ntmps13
  go_wp2_with fail
  go_loopw [0, 3] (fun b v wr => ∃ ps r, PrI w wr B b v ps bs r) (fun _ v _ => (rdOps bs).length - slLen v)
  case atStart => exact ⟨[], bs, HV.out, ⟨World.ownsRow_nil _ _ _ _, fun p hp => by simp at hp, fun p hp => by simp at hp⟩, rfl, Below.refl _ _, Nat.le_refl _⟩
  case round =>
    obtain ⟨ps, r, hI⟩ := hrel
    have hsrc := hI.src
    obtain ⟨A', c', rfl⟩ := hsrc.form
    have hrow := hI.out.row
    obtain ⟨A5, c5, rfl, _, _⟩ := own_form hrow
    have HI := Lib.hid hI
    have hrl := hI.len
    clear hrow hI
    have hpl : ps.length + (rdOps r).length = (rdOps bs).length := by rw [← HI.out.eq, List.length_append, List.length_map]
    by_cases hr0 : 0 < r.length
    · have hr0I : (0 : Int) < (r.length : Int) := by omega
      have hlt : ps.length < (rdOps bs).length := by
        rw [rdOps_cons r hr0, List.length_cons] at hpl
        omega
      have hle : ps.length ≤ 5000 := by have := HN.out; have := HL.out; omega
      have hr5 : r.length ≤ 5000 := by have := HL.out; omega
      have HR0 := Lib.hid hr0
      have HLe := Lib.hid hle
      have HLt := Lib.hid hlt
      have hfe := firstP_eq r
      have hfp := firstP_pos r
      have HF := Lib.hid (first_any B _ r wr HI.out.src (Nat.le_trans HS.out HI.out.below.size) hr5)
      have e1 : (firstP r).1 = (rdOp r).1 := by rw [hfe]
      have e2 : r.drop (firstP r).2 = (rdOp r).2 := by rw [hfe]
      obtain ⟨n, hn⟩ : ∃ n, (firstP r).2 = n := ⟨_, rfl⟩
      obtain ⟨o, ho⟩ : ∃ o, (rdOp r).1 = o := ⟨_, rfl⟩
      obtain ⟨m, hm⟩ : ∃ m, min n r.length = m := ⟨_, rfl⟩
      rw [hn] at e2
      have hml : m ≤ r.length := by omega
      have hmn : min (n : Int) (r.length : Int) = (m : Int) := by omega
      obtain ⟨A9, hA9⟩ : ∃ A9, sliced A' m r.length c' 1 = .slice A9 (r.length - m) (c' - m) := ⟨_, rfl⟩
      have hrs : Hid (∀ W', KeepB B 5 wr W' → Bts W' B 5 (.slice A9 (r.length - m) (c' - m)) (rdOp r).2) := Lib.hid fun W' hk => by
        rw [← hA9, ← e2, ← drop_min, hm]
        exact (HI.out.src.keep hk).from_ m hml
      have hsl : ∀ w', (Instr.slice 39 (.slice A' r.length c') (some (.int .i64 (m : Int))) none none).run Tryz.prog w' = .ok (.slice A9 (r.length - m) (c' - m)) w' := fun w' => by
        rw [run_slice_l w' 39 A' r.length c' Tryz.underlying39 .i64 _ (Int.natCast_nonneg _) (by omega)]
        rw [size_bytes, Int.toNat_natCast]
        exact congrArg (Result.ok · w') hA9
      have HFr : Hid (Calls Tryz.prog 48 #[.slice A' r.length c'] wr fun e w' => ∃ A c, e = .returned (.tuple #[opv o (.slice A o.val.length c), .int .i64 n]) ∧ Bts w' B 5 (.slice A o.val.length c) o.val ∧ Below wr.heap.size wr w') := Lib.hid (by
        have := HF.out
        unfold FirstRet at this
        rw [e1, hn, ho] at this
        exact this)
      obtain ⟨rl, hrl'⟩ : ∃ rl, r.length = rl := ⟨_, rfl⟩
      have HRl := Lib.hid hrl'
      have HO := Lib.hid ho
      rw [hrl'] at hrs hsl hmn hr0I HFr ⊢
      clear hpl hle hlt hr0 hfe hfp HF e1 e2 hn ho hm hml hA9 hrl hr5 hrl' hsrc
      unfold opv at HFr
      go_wp2_with fail
      refine HFr.out.mono ?_
      rintro e w7 ⟨A7, c7, rfl, hv7, hb7⟩
      have HV7 := Lib.hid hv7
      have HB7 := Lib.hid hb7
      have HRow7 := Lib.hid (own_later HI.out.out.row hb7)
      have HSrc := Lib.hid (src_op2 w7 (.cells (opc o (.slice A7 o.val.length c7)) 41) o (.slice A7 o.val.length c7))
      unfold opc at HSrc ⊢
      clear hv7 hb7 HFr
      go_wp2_with (at_builtin; refine wpList_append_src _ rfl _ _ _ rfl w.heap.size 41 i0 _ 9 96 Tryz.underlying22 hi0 hz0 hz1 hz2 rfl (by decide) _ ps.length (ocs ps) rfl ((HRow7.out.alloc _).alloc _) (some ⟨w7.heap.size + 1, 0, none⟩) 1 1 (opcs o (.slice A7 o.val.length c7)) rfl HSrc.out (opcs_one _ _ _ _) (by have := HLe.out; unfold maxLen; omega) (by have := HLe.out; omega) (by have := HI.out.below.size; have := HB7.out.size; simp; omega) ?_; intro v8 w8 hown8 hg8 hat8)
      have hst := PrI.step HI.out HS.out HR0.out (by rw [HO.out]; exact HV7.out) HB7.out hrs.out (by rw [HO.out]; exact hown8) hg8
      have HSt := Lib.hid hst
      have hsl8 : slLen v8 = ps.length + 1 := by
        obtain ⟨A8, c8, e8, _, _⟩ := own_form hown8
        rw [e8]; rfl
      have HSl := Lib.hid hsl8
      clear hst hown8 hg8 hat8 hsl8
      go_roundw
      case rel => exact ⟨_, _, HSt.out⟩
      case measure => rw [HSl.out]; show _ < (rdOps bs).length - ps.length; have := HLt.out; omega
    · have hr0I : ¬ (0 : Int) < (r.length : Int) := by omega
      have hnil : r = [] := by simpa using hr0
      subst hnil
      clear hpl hr0
      go_wp2_with fail
      go_ret
      unfold RPRet
      refine ⟨_, ps, rfl, ?_, HI.out.out, HI.out.below⟩
      rw [← HI.out.eq]; simp [rdOps, rdOpsF]
end Go.Proofs.YtbcigelgggimmaaGreatDoor
namespace Go.Sy
open Go Go.RowKit
noncomputable def putRs {β : Type} (rs : List (Nat × GV)) : Heap → (Heap → β) → β :=
  List.rec (motive := fun _ => Heap → (Heap → β) → β) (fun H k => k H)
    (fun g _ ih H k => putCells g.2.l .e 0 fun c => frc (len g.2.l) fun m => Q8.set (some (.row g.2.t (fun _ => none) m c true false)) H g.1 fun H => ih H k) rs
noncomputable def sameRs (H : Heap) (rs : List (Nat × GV)) : Prop :=
  List.rec True (fun g _ ih => sameG g.2 (Q8.get H g.1) ∧ ih) rs
noncomputable def runP (P : Program) (O : Orc) (fuel : Nat) (f : FuncId) (args : List AV) (res : AV) (rs : List (Nat × GV)) (nb : Nat) : Prop :=
  putRs rs Q8.e fun H => match (ev P O fuel).ef f args (Nat.add 64 nb) H with
    | .ok v n' H' => (match Nat.ble n' 65536 with | true => v = res ∧ sameRs H' rs | false => False)
    | .er _ => False
noncomputable def hR : List (Nat × GV) → Heap → Heap
  | [], H => H
  | g :: rs, H => hR rs (Q8.upd H g.1 (some (rowG g.2)))
theorem putRs_k {β : Type} (rs : List (Nat × GV)) : ∀ (H : Heap) (k : Heap → β), putRs rs H k = k (hR rs H) := by
  induction rs with
  | nil => intro H k; rfl
  | cons g rs ih =>
    intro H k
    show putCells g.2.l .e 0 (fun c => frc (len g.2.l) fun m => Q8.set (some (.row g.2.t (fun _ => none) m c true false)) H g.1 fun H => putRs rs H k) = _
    rw [putCells_k, frc_eq, Q8.set_k, ih, len_eq]
    rfl
theorem get_hR (rs : List (Nat × GV)) : ∀ (H : Heap) (x : Nat), (∀ g ∈ rs, g.1 < LIM) → x < LIM → Q8.get (hR rs H) x = Q8.get H x ∨ ∃ g ∈ rs, g.1 = x ∧ Q8.get (hR rs H) x = some (rowG g.2) := by
  induction rs with
  | nil => intro H x _ _; exact .inl rfl
  | cons g rs ih =>
    intro H x hl hx
    rcases ih (Q8.upd H g.1 (some (rowG g.2))) x (fun g hg => hl g (List.mem_cons_of_mem _ hg)) hx with h | ⟨y, h1, h2, h3⟩
    · rw [Q8.get_upd _ _ _ _ (hl g List.mem_cons_self) hx] at h
      by_cases he : g.1 = x
      · rw [if_pos he] at h
        exact .inr ⟨g, List.mem_cons_self, he, h⟩
      · rw [if_neg he] at h; exact .inl h
    · exact .inr ⟨y, List.mem_cons_of_mem _ h1, h2, h3⟩
theorem sameRs_at {H : Heap} : ∀ {rs : List (Nat × GV)}, sameRs H rs → ∀ g ∈ rs, sameG g.2 (Q8.get H g.1)
  | [], _, g, hg => by cases hg
  | g' :: rs, h, g, hg => by
    have h : sameG g'.2 (Q8.get H g'.1) ∧ sameRs H rs := h
    rcases List.mem_cons.1 hg with rfl | hg
    · exact h.1
    · exact sameRs_at h.2 g hg
/-- The symbols at first: the program's variables, the arguments' blocks. -/
def sgB (bs : List Nat) : Sg := ⟨fun x => if x < 64 then some x else bs[x - 64]?, fun _ => 0⟩
theorem sgB_some {bs : List Nat} {x b : Nat} (h : (sgB bs).blk x = some b) : (x < 64 ∧ b = x) ∨ (64 ≤ x ∧ x < 64 + bs.length ∧ bs[x - 64]? = some b) := by
  simp only [sgB] at h
  split at h
  · rename_i hx; injection h with h; exact .inl ⟨hx, h.symm⟩
  · rename_i hx
    have := (List.getElem?_eq_some_iff.1 h).1
    exact .inr ⟨by omega, by omega, h⟩
/-- What a run starts from: rows whole, each in a block of its own. -/
structure RowsAt (w : World) (rs : List (Nat × GV)) (bs : List Nat) : Prop where
  good : ∀ g ∈ rs, g.2.Good
  blk : ∀ g ∈ rs, ∃ b, (sgB bs).blk g.1 = some b ∧ w.heap[b]? = some (Obj.cells ⟨g.2.vs⟩ g.2.t (0, 0))
  inj : ∀ g ∈ rs, ∀ g' ∈ rs, ∀ b, (sgB bs).blk g.1 = some b → (sgB bs).blk g'.1 = some b → g.1 = g'.1
  few : bs.length ≤ 1000
section
variable {P : Program}
theorem run_args {O : Orc} (hm : P.follows .mixedOrders = true) (hO : OrcOk P O) {fuel : Nat} {f : FuncId} {args : List AV} {res : AV} {rs : List (Nat × GV)} {bs : List Nat} {Args : List Value} {V : Value}
    {w : World} (hrs : RowsAt w rs bs) (hA : concL (sgB bs) args = some Args) (hV : ∀ s, res.conc s = some V) (h : runP P O fuel f args res rs bs.length) : Calls P f ⟨Args⟩ w fun e w' => e = .returned V ∧ Below w.heap.size w w' := by
  have hL : (65536 : Nat) = LIM := rfl
  have hfew := hrs.few
  have hlt : ∀ g ∈ rs, g.1 < LIM := fun g hg => by
    obtain ⟨b, hb, _⟩ := hrs.blk g hg
    rcases sgB_some hb with ⟨a1, a2⟩ | ⟨a1, a2, a3⟩ <;> omega
  unfold runP at h
  rw [putRs_k] at h
  have hget : ∀ x, x < LIM → Q8.get (hR rs Q8.e) x = none ∨ ∃ g ∈ rs, g.1 = x ∧ Q8.get (hR rs Q8.e) x = some (rowG g.2) := fun x hx => by
    rcases get_hR rs Q8.e x hlt hx with h | h
    · exact .inl (h.trans (Q8.get_e x))
    · exact .inr h
  have hr0 : Rel P (sgB bs) (hR rs Q8.e) w := by
    refine ⟨fun x b hb => ?_, fun g hg => by simp [sgB, hg], fun x A hx hA => ?_, fun x y b hx hy h1 h2 h3 h4 => ?_⟩
    · rcases sgB_some hb with ⟨a1, a2⟩ | ⟨a1, a2, a3⟩ <;> omega
    · rcases hget x hx with h | ⟨g, hg, rfl, h⟩
      · rw [h] at hA; cases hA
      · rw [h] at hA; injection hA with hA; subst hA
        obtain ⟨b, hb, hw⟩ := hrs.blk g hg
        exact ⟨b, _, hb, hw, rowG_good (hrs.good g hg) _ _⟩
    · rcases hget x hx with h | ⟨g, hg, rfl, h⟩
      · exact absurd h h1
      · rcases hget y hy with h' | ⟨g', hg', rfl, h'⟩
        · exact absurd h' h2
        · exact hrs.inj g hg g' hg' b h3 h4
  split at h
  · rename_i v n' H' hev
    split at h
    · rename_i h2
      obtain ⟨h1, h⟩ := h
      subst h1
      refine callsIn_wide.1 (calls_of_ev hm hO hev hA hr0 (fun x h1 _ => ?_) (Nat.le_of_ble_eq_true h2) fun V' s' w' hv hr hs => ?_)
      · have h1 : 64 + bs.length ≤ x := h1
        simp only [sgB]
        rw [if_neg (by omega), List.getElem?_eq_none (by omega)]
      rw [hV] at hv
      injection hv with hv
      subst hv
      refine ⟨rfl, hs.os, hs.tape, hs.output, hs.size, fun k hk => ?_⟩
      have hoff : ∀ x, x < 64 + bs.length → s'.blk x = (sgB bs).blk x := fun x hx => (hs.off x (.inl hx)).1
      by_cases hex : ∃ x, x < LIM ∧ Q8.get (hR rs Q8.e) x ≠ none ∧ (sgB bs).blk x = some k
      · obtain ⟨x, hx, hxn, hxb⟩ := hex
        rcases hget x hx with h' | ⟨g, hg, rfl, h'⟩
        · exact absurd h' hxn
        · have hsm := sameRs_at h g hg
          cases hB : Q8.get H' g.1 with
          | none => rw [hB] at hsm; exact hsm.elim
          | some B =>
            rw [hB] at hsm
            obtain ⟨b, o, b1, b2, b3⟩ := hr.blk g.1 B hx hB
            have hx2 : g.1 < 64 + bs.length := by rcases sgB_some hxb with ⟨a1, a2⟩ | ⟨a1, a2, a3⟩ <;> omega
            rw [hoff g.1 hx2, hxb] at b1
            injection b1 with b1; subst b1
            obtain ⟨b', hb', hw⟩ := hrs.blk g hg
            rw [hxb] at hb'; injection hb' with hb'; subst hb'
            rw [b2, hw, sameG_row (hrs.good g hg) hsm b3]
      · exact hs.frame k hk fun x hx h1 h2 => hex ⟨x, hx, h1, h2⟩
    · cases h
  · cases h
theorem rowsAt_nil (w : World) : RowsAt w [] [] := ⟨by simp, by simp, by simp, by simp⟩
/-- No rows: values alone. -/
theorem run_vals {O : Orc} (hm : P.follows .mixedOrders = true) (hO : OrcOk P O) {fuel : Nat} {f : FuncId} {args : List AV} {res : AV} {Args : List Value} {V : Value}
    (hA : concL (sgB []) args = some Args) (hV : ∀ s, res.conc s = some V) (h : runP P O fuel f args res [] 0) (w : World) : Calls P f ⟨Args⟩ w fun e w' => e = .returned V ∧ Below w.heap.size w w' :=
  run_args hm hO (rowsAt_nil w) hA hV h
/-- The program's variables. -/
theorem rowsAt_globals {w : World} {rs : List (Nat × GV)} (hg : ∀ g ∈ rs, g.2.Good) (hw : ∀ g ∈ rs, g.1 < 64 ∧ w.heap[g.1]? = some (Obj.cells ⟨g.2.vs⟩ g.2.t (0, 0))) : RowsAt w rs [] := by
  refine ⟨hg, fun g h => ⟨g.1, by simp [sgB, (hw g h).1], (hw g h).2⟩, fun g h g' h' b e e' => ?_, by simp⟩
  rcases sgB_some e with ⟨a1, a2⟩ | ⟨a1, a2, a3⟩ <;> rcases sgB_some e' with ⟨b1, b2⟩ | ⟨b1, b2, b3⟩ <;> first | omega | (simp at a2 b2; omega) | (simp at a3) | (simp at b3)
end
/-- Integers in a row. -/
def gInts (k : IntKind) (t : TypeId) (l : List Nat) : GV := ⟨t, l.map fun n => .i k (.ofNat n), l.map fun n => .int k (.ofNat n)⟩
theorem gInts_good (k : IntKind) (t : TypeId) (l : List Nat) : (gInts k t l).Good := by
  refine ⟨fun s => ?_, fun v hv => ?_⟩
  · show concL s (l.map fun n => .i k (.ofNat n)) = some (l.map fun n => .int k (.ofNat n))
    induction l with
    | nil => rfl
    | cons a r ih => exact concL_cons.2 ⟨_, _, rfl, ih, rfl⟩
  · simp only [gInts, List.mem_map] at hv
    obtain ⟨n, _, rfl⟩ := hv
    rfl
def bruijnN : List Nat := [0,1,56,2,57,49,28,3,61,58,42,50,38,29,17,4,62,47,59,36,45,43,51,22,53,39,33,30,24,18,12,5,63,55,48,27,60,41,37,16,46,35,44,21,52,32,23,11,54,26,40,15,34,20,31,10,25,14,19,9,13,8,7,6]
def kindsN : List Nat := [3,1,2,4,5,6,7,8,9,10,11,12,13,14,3,1]
end Go.Sy

/- AudKM, AudLB, AudMB, AudMA, AudLC, AudSD -/
import Derived.Test.YtnabbimompapfaaMf14
import Derived.Lib.SmallJoins
import Derived.Test.YtnabbimompapfaaMf1
import Derived.Laws.CopyRow
import Derived.Test.YtnabbimompapfaaMf3
namespace Go.Proofs.Ytnabbimompapfaa
open Go Go.RowKit Go.MapKept Go.Maps
set_option maxHeartbeats 1000000 in
theorem live1_any (w : World) (its : List It) : PredIs w 12 #[] its (fun _ => true) := by
 refine ⟨enters_of Try.func12 (by kernel_rfl) rfl, fun x hx W hW => ?_⟩
 clear hx hW
 show Calls Try.prog _ #[ptrI x.b] W _
 unfold ptrI
 go_enter Try.func12, Try.ntmps12
 go_wp2_with fail
 go_ret
 exact ⟨rfl, Gr.refl _⟩
theorem src_en (w : World) (x : EntV) (V : Value) : Src (w.alloc (.cells #[.string x.key, V, .int .u64 x.dl, .int .u64 x.birth] 32)) 4 (some ⟨w.heap.size, 0, none⟩) 1 (ecs [(x, V)]) := by
 have e1 : ecs [(x, V)] = [.string x.key, V, .int .u64 x.dl, .int .u64 x.birth] := by simp [ecs]
 refine ⟨by rw [e1]; rfl, (fun h => by cases h), fun a ha j v hu => ?_⟩
 cases ha
 rw [add_plain, Nat.zero_add]
 refine (Blk.new w _ _).cell j v ?_
 rw [e1] at hu
 simpa using hu
def LvRetJ (x : List EntV × Int) (w : World) (e : Ending) (w' : World) : Prop :=
 ∃ v ps base, e = .returned (.tuple #[v, .int .i64 x.2]) ∧ w.heap.size ≤ base ∧ w'.ownsRow base 32 4 v ps.length (ecs ps) ∧ (∀ p ∈ ps, Bts w' w'.heap.size 5 p.2 p.1.val ∧ OwnV w' w.heap.size p.2) ∧ ps.map Prod.fst = x.1 ∧ Below w.heap.size w w'
set_option maxRecDepth 100000 in
set_option maxHeartbeats 8000000 in
theorem live_any (Bv : Nat) (c : CfgV) (lv : Value) (qs : List RQ) (w : World) (h : RsAt w Bv lv qs) (hq : ∀ q ∈ qs, RqOk q) (hBv : Bv ≤ w.heap.size) (hn : qs.length ≤ 60000) :
  Calls Try.prog 6 #[cfgv c, lv] w (LvRetJ (liveP c (qs.map RQ.r)) w) := by
 obtain ⟨A, cap, rfl, hc, hm⟩ := h.cap
 have HC0 : Hid (Blk (w.alloc (.cells #[.int .i64 c.count, .int .i64 c.bytes, .int .i64 c.prot, .int .u64 c.seed, .bool c.same] 37)) w.heap.size 37 #[.int .i64 c.count, .int .i64 c.bytes, .int .i64 c.prot, .int .u64 c.seed, .bool c.same]) := zH (Blk.new w _ _)
 have hbl : Below w.heap.size w (w.alloc (.cells #[.int .i64 c.count, .int .i64 c.bytes, .int .i64 c.prot, .int .u64 c.seed, .bool c.same] 37)) := (zL _ _).alloc (zN _) _
 have HRn := zH (run_any Bv c _ qs _ (h.below hbl) hq (Nat.le_trans hBv hbl.size) hn)
 unfold cfgv cfgc at HRn ⊢
 obtain ⟨X, hX⟩ : ∃ X, checkP c (qs.map RQ.r) = X := ⟨_, rfl⟩
 have HX := zH hX
 obtain ⟨X1, X2, X3⟩ := X
 have HN := zH hn
 obtain ⟨i0, hi0, hz0, hz1, hz2⟩ := info_parts entI_info
 clear h hq hBv hn hbl hX hc hm
 go_enter Try.func6, Try.ntmps6
 have x0 : World.cell? (w.alloc (.cells #[.int .i64 c.count, .int .i64 c.bytes, .int .i64 c.prot, .int .u64 c.seed, .bool c.same] 37)) ⟨w.heap.size, 0, none⟩ = some (.int .i64 c.count) := HC0.out.cell 0 _ rfl
 have x1 : World.cell? (w.alloc (.cells #[.int .i64 c.count, .int .i64 c.bytes, .int .i64 c.prot, .int .u64 c.seed, .bool c.same] 37)) ⟨w.heap.size, 1, none⟩ = some (.int .i64 c.bytes) := HC0.out.cell 1 _ rfl
 have x2 : World.cell? (w.alloc (.cells #[.int .i64 c.count, .int .i64 c.bytes, .int .i64 c.prot, .int .u64 c.seed, .bool c.same] 37)) ⟨w.heap.size, 2, none⟩ = some (.int .i64 c.prot) := HC0.out.cell 2 _ rfl
 have x3 : World.cell? (w.alloc (.cells #[.int .i64 c.count, .int .i64 c.bytes, .int .i64 c.prot, .int .u64 c.seed, .bool c.same] 37)) ⟨w.heap.size, 3, none⟩ = some (.int .u64 c.seed) := HC0.out.cell 3 _ rfl
 have x4 : World.cell? (w.alloc (.cells #[.int .i64 c.count, .int .i64 c.bytes, .int .i64 c.prot, .int .u64 c.seed, .bool c.same] 37)) ⟨w.heap.size, 4, none⟩ = some (.bool c.same) := HC0.out.cell 4 _ rfl
 go_wp2_with fail
 refine HRn.out.mono ?_
 rintro e w2 ⟨J, he, hb2, hj⟩
 rw [HX.out] at he hj
 subst he
 have HB2 : Hid (Below w.heap.size w w2) := zH (below_own hb2)
 clear hb2 x0 x1 x2 x3 x4 HC0 HRn
 by_cases he0 : X3 = 0
 ·subst he0
  by_cases hx0 : X2 = 0
  ·subst hx0
   obtain ⟨g, gm, gp, us, its, P, rfl, hi, hrep⟩ := hj rfl rfl
   obtain ⟨s, hs⟩ : ∃ s, (jall (qs.map RQ.r) (start c) 0).2 = s := ⟨_, rfl⟩
   rw [hs] at hi hrep
   have HI := zH hi
   have HJ2 : Hid (JRep w2 (w.heap.size + 1) g gm gp us s its P) := zH (by rw [World.size_alloc] at hrep; exact hrep)
   have HS : Hid (liveP c (qs.map RQ.r) = (s.L, 0)) := zH (by
    unfold liveP
    rw [HX.out, if_neg (by simp), if_neg (by simp), hs])
   have HL : Hid (its.length ≤ 60000) := zH (by have := hrep.lenI; have := hi.lenL; rw [List.length_map] at this; have := HN.out; omega)
   clear hs hi hrep hj
   have HSo := zH (sorted_any (w.heap.size + 1) g gm gp us s its P w2 HJ2.out (by have := HL.out; omega) _ _ _ (live1_any w2 its) _ _ cmpIs_birth)
   go_wp2_with fail
   refine HSo.out.mono ?_
   rintro e w3 ⟨A3, n3, c3, ys, rfl, hrow, hperm, hord, hb3⟩
   have HYe : Hid (ys.map It.e = s.L) := zH (by
    have he := sortB_eq (q := fun _ => true) HI.out.asc HJ2.out.perm (fun _ => rfl) hperm (hord.imp (fun h => by omega))
    have hft : s.L.filter (fun _ => true) = s.L := List.filter_eq_self.2 (fun _ _ => rfl)
    rwa [hft] at he)
   have HYm : Hid (∀ x ∈ ys, x ∈ its) := zH (fun x hx => (List.mem_filter.1 (hperm.mem_iff.1 hx)).1)
   have hlen := hrow.len
   rw [List.length_map] at hlen
   have hcap := hrow.cap
   have HYl : Hid (ys.length ≤ 60000) := zH (by
    have := hperm.length_eq
    have h2 := List.length_filter_le (fun _ => true) its
    have := HL.out
    omega)
   have hyI : (ys.length : Int) ≤ 60000 := by have := HYl.out; omega
   have HRow := zH hrow
   have HJ3 := zH (HJ2.out.below hb3)
   have HB3 := zH (HB2.out.trans (hb3.mono HB2.out.size))
   subst hlen
   clear hrow hperm hord hb3 HSo HJ2
   go_wp2_with fail
   go_loopw [10, 31] (fun o i wr => ∃ (k : Nat), k ≤ ys.length ∧ i = .int .i64 k ∧ Below w3.heap.size w3 wr ∧ wr.ownsRow w3.heap.size 32 4 o k (ecs ((ys.take k).map fun x => (x.e, x.v)))) (fun _ i _ => ys.length - (intOf i).toNat)
   case atStart => exact ⟨0, Nat.zero_le _, rfl, zL _ _, World.ownsRow_nil _ _ _ _⟩
   case round =>
    obtain ⟨k, hk, rfl, hbr, hown⟩ := hrel
    have HBr := zH hbr
    have HO := zH hown
    clear hbr hown
    by_cases hkl : k < ys.length
    ·obtain ⟨gr, x, hA, -, hgr, hx, hcell⟩ := HRow.out.at_ hkl
     subst hA
     have HXi : Hid (x ∈ its) := zH (HYm.out x (List.mem_of_getElem? hx))
     have HT : Hid ((ys.take (k + 1)).map (fun x => (x.e, x.v)) = (ys.take k).map (fun x => (x.e, x.v)) ++ [(x.e, x.v)]) := zH (by
      rw [List.take_add_one, hx, List.map_append, Option.toList_some, List.map_singleton])
     have hjr := HJ3.out.below HBr.out
     obtain ⟨VA, vc, hV⟩ := (hjr.vals x HXi.out).form
     have hcell2 := (HBr.out.cell (p := ⟨gr, k, none⟩) hgr).trans hcell
     unfold ptrI at hcell2
     obtain ⟨y0, y1, y2, y3, -, -⟩ := (hjr.ib x HXi.out).cells
     rw [hV] at y1
     have HVx := zH hV
     have hkI : (k : Int) < (ys.length : Int) := by omega
     have hk0 : (0 : Int) ≤ (k : Int) := by omega
     obtain ⟨oA, oc, rfl, ol1, ol2⟩ := own_form HO.out
     clear hx hcell hgr hjr hV
     go_wp2_with (at_builtin; go_loud (refine wpList_append_src _ rfl _ _ _ rfl w3.heap.size 32 i0 _ 4 56 Try.underlying41 hi0 hz0 hz1 hz2 rfl (by decide) _ k (ecs ((ys.take k).map fun x => (x.e, x.v))) rfl (own_later' HO.out ((zL _ _).alloc (zN _) _)) (some ⟨wr.heap.size, 0, none⟩) 1 1 (ecs [(x.e, .slice VA x.e.val.length vc)]) rfl (src_en wr x.e _) (ecs_one _ (fun p hp => by rw [List.mem_singleton.1 hp]; exact ⟨_, _, _, rfl⟩)) (by have := HYl.out; unfold maxLen; omega) (by have := HYl.out; omega) (by have := HBr.out.size; simp; omega) ?_; intro v8 w8 hown8 hg8 hat8))
     have HO8 : Hid (w8.ownsRow w3.heap.size 32 4 v8 (k + 1) (ecs ((ys.take (k + 1)).map fun x => (x.e, x.v)))) := zH (by
      rw [HT.out, ecs_append, HVx.out]
      exact hown8)
     have HB8 : Hid (Below w3.heap.size w3 w8) := zH ((HBr.out.alloc HBr.out.size _).grown hg8 (HBr.out.alloc HBr.out.size _).size (fun k hk => (row_heap' HO.out hk).1))
     clear hown8 hg8 hat8
     go_roundw
     case rel => exact ⟨k + 1, by omega, by go_num, HB8.out, HO8.out⟩
     case measure => simp [intOf]; omega
    ·obtain rfl : k = ys.length := by omega
     obtain ⟨oA, oc, rfl, _, _⟩ := own_form HO.out
     have hjr := HJ3.out.below HBr.out
     have HVs : Hid (∀ p ∈ ys.map (fun x => (x.e, x.v)), Bts wr wr.heap.size 5 p.2 p.1.val ∧ OwnV wr w.heap.size p.2) := zH (fun p hp => by
      obtain ⟨x, hx, rfl⟩ := List.mem_map.1 hp
      have hxi := HYm.out x hx
      exact ⟨(hjr.vals x hxi).up2 (by have := hjr.base.1; have := hjr.blk.lt; omega), (hjr.apart.2 x hxi).weak (Nat.le_succ _)⟩)
     have HOe : Hid (wr.ownsRow w3.heap.size 32 4 (.slice oA ys.length oc) (ys.map fun x => (x.e, x.v)).length (ecs (ys.map fun x => (x.e, x.v)))) := zH (by
      have := HO.out
      rw [List.take_length] at this
      rw [List.length_map]
      exact this)
     have HB9 := zH (HB3.out.trans (HBr.out.mono HB3.out.size))
     have HMp : Hid ((ys.map fun x => (x.e, x.v)).map Prod.fst = s.L) := zH (by rw [List.map_map, ← HYe.out]; rfl)
     clear hjr
     go_wp2_with fail
     refine bodyPost_ret (v := .tuple #[.slice oA ys.length oc, .int .i64 0]) (by simp [results, Try.results6, go_sem]) rfl ⟨_, ys.map fun x => (x.e, x.v), w3.heap.size, by rw [HS.out], HB3.out.size, HOe.out, HVs.out, by rw [HS.out]; exact HMp.out, HB9.out⟩
  ·have hxb : (X2 != 0) = true := by simp [hx0]
   have HS : Hid (liveP c (qs.map RQ.r) = ([], 10)) := zH (by
    unfold liveP
    rw [HX.out, if_neg (by simp), if_pos hx0])
   clear hx0 hj
   go_wp2_with fail
   refine bodyPost_ret (v := .tuple #[.slice none 0 0, .int .i64 (10)]) (by simp [results, Try.results6, go_sem]) rfl ⟨_, [], _, by rw [HS.out], zN _, World.ownsRow_nil _ _ _ _, (fun p hp => by cases hp), by rw [HS.out]; rfl, HB2.out⟩
 ·have heb : (X3 != 0) = true := by simp [he0]
  have HS : Hid (liveP c (qs.map RQ.r) = ([], X3)) := zH (by
   unfold liveP
   rw [HX.out, if_pos he0])
  clear he0 hj
  go_wp2_with fail
  refine bodyPost_ret (v := .tuple #[.slice none 0 0, .int .i64 (X3)]) (by simp [results, Try.results6, go_sem]) rfl ⟨_, [], _, by rw [HS.out], zN _, World.ownsRow_nil _ _ _ _, (fun p hp => by cases hp), by rw [HS.out]; rfl, HB2.out⟩
end Go.Proofs.Ytnabbimompapfaa
namespace Go.Proofs.Ytnabbimompapfaa
open Go Go.RowKit
set_option maxRecDepth 100000 in
set_option maxHeartbeats 8000000 in
theorem judged_any (Bv : Nat) (c : CfgV) (lv : Value) (qs : List RQ) (want x : Int) (w : World) (h : RsAt w Bv lv qs) (hq : ∀ q ∈ qs, RqOk q) (hBv : Bv ≤ w.heap.size) (hn : qs.length ≤ 60000) :
  Calls Try.prog 8 #[cfgv c, lv, .int .i64 want, .int .i64 x] w fun e w' => e = .returned (.bool (decide (checkP c (qs.map RQ.r) = (want, x, 0)))) ∧ Below w.heap.size w w' := by
 obtain ⟨A, cap, rfl, hc, hm⟩ := h.cap
 have HC0 : Hid (Blk (w.alloc (.cells #[.int .i64 c.count, .int .i64 c.bytes, .int .i64 c.prot, .int .u64 c.seed, .bool c.same] 37)) w.heap.size 37 #[.int .i64 c.count, .int .i64 c.bytes, .int .i64 c.prot, .int .u64 c.seed, .bool c.same]) := zH (Blk.new w _ _)
 have hbl : Below w.heap.size w (w.alloc (.cells #[.int .i64 c.count, .int .i64 c.bytes, .int .i64 c.prot, .int .u64 c.seed, .bool c.same] 37)) := (zL _ _).alloc (zN _) _
 have HRn := zH (auditCheck_any Bv c _ qs _ (h.below hbl) hq (Nat.le_trans hBv hbl.size) hn)
 unfold cfgv cfgc at HRn ⊢
 obtain ⟨X, hX⟩ : ∃ X, checkP c (qs.map RQ.r) = X := ⟨_, rfl⟩
 obtain ⟨X1, X2, X3⟩ := X
 rw [hX] at HRn ⊢
 clear h hq hBv hn hbl hX hc hm
 go_enter Try.func8, Try.ntmps8
 have x0 : World.cell? (w.alloc (.cells #[.int .i64 c.count, .int .i64 c.bytes, .int .i64 c.prot, .int .u64 c.seed, .bool c.same] 37)) ⟨w.heap.size, 0, none⟩ = some (.int .i64 c.count) := HC0.out.cell 0 _ rfl
 have x1 : World.cell? (w.alloc (.cells #[.int .i64 c.count, .int .i64 c.bytes, .int .i64 c.prot, .int .u64 c.seed, .bool c.same] 37)) ⟨w.heap.size, 1, none⟩ = some (.int .i64 c.bytes) := HC0.out.cell 1 _ rfl
 have x2 : World.cell? (w.alloc (.cells #[.int .i64 c.count, .int .i64 c.bytes, .int .i64 c.prot, .int .u64 c.seed, .bool c.same] 37)) ⟨w.heap.size, 2, none⟩ = some (.int .i64 c.prot) := HC0.out.cell 2 _ rfl
 have x3 : World.cell? (w.alloc (.cells #[.int .i64 c.count, .int .i64 c.bytes, .int .i64 c.prot, .int .u64 c.seed, .bool c.same] 37)) ⟨w.heap.size, 3, none⟩ = some (.int .u64 c.seed) := HC0.out.cell 3 _ rfl
 have x4 : World.cell? (w.alloc (.cells #[.int .i64 c.count, .int .i64 c.bytes, .int .i64 c.prot, .int .u64 c.seed, .bool c.same] 37)) ⟨w.heap.size, 4, none⟩ = some (.bool c.same) := HC0.out.cell 4 _ rfl
 go_wp2_with fail
 refine HRn.out.mono ?_
 rintro e w2 ⟨rfl, hb2⟩
 have HB2 : Hid (Below w.heap.size w w2) := zH (below_own hb2)
 clear hb2 x0 x1 x2 x3 x4
 dsimp only
 by_cases h1 : X1 = want
 ·have q1 : (X1 == want) = true := by simp [h1]
  by_cases h2 : X2 = x
  ·have q2 : (X2 == x) = true := by simp [h2]
   by_cases h3 : X3 = 0
   ·have q3 : (X3 == 0) = true := by simp [h3]
    have HS : Hid (decide ((X1, X2, X3) = (want, x, (0 : Int))) = true) := zH (decide_eq_true (by rw [h1, h2, h3]))
    clear h1 h2 h3
    go_wp2_with fail
    go_ret
    exact ⟨by rw [HS.out]; rfl, HB2.out⟩
   ·have q3 : (X3 == 0) = false := by simp [h3]
    have HS : Hid (decide ((X1, X2, X3) = (want, x, (0 : Int))) = false) := zH (decide_eq_false (fun e => by injection e with _ e; injection e with _ e; exact h3 e))
    clear h1 h2 h3
    go_wp2_with fail
    go_ret
    exact ⟨by rw [HS.out]; rfl, HB2.out⟩
  ·have q2 : (X2 == x) = false := by simp [h2]
   have HS : Hid (decide ((X1, X2, X3) = (want, x, (0 : Int))) = false) := zH (decide_eq_false (fun e => by injection e with _ e; injection e with e _; exact h2 e))
   clear h1 h2
   go_wp2_with fail
   go_ret
   exact ⟨by rw [HS.out]; rfl, HB2.out⟩
 ·have q1 : (X1 == want) = false := by simp [h1]
  have HS : Hid (decide ((X1, X2, X3) = (want, x, (0 : Int))) = false) := zH (decide_eq_false (fun e => by injection e with e _; exact h1 e))
  clear h1
  go_wp2_with fail
  go_ret
  exact ⟨by rw [HS.out]; rfl, HB2.out⟩
def ka : ByteArray := ⟨#[97]⟩
def gr1 (cost : Int) : ResV := ⟨⟨1, 0, ka, [120], 0, 0, 0, 0, 0⟩, 0, 0, false, [], ⟨⟨#[]⟩, [], 0, 0⟩, 0, [], 1, cost⟩
def gr2 (at_ err : Int) (hit : Bool) (evs : List EvV) (len cost : Int) : ResV := ⟨⟨3, 3, ka, [], 0, 0, 0, 0, 0⟩, at_, err, hit, [120], ⟨⟨#[]⟩, [], 0, 0⟩, 0, evs, len, cost⟩
def bx (h : Nat) : Value := .slice (some ⟨h, 0, none⟩) 1 1
def nx : Value := .slice none 0 0
def gcs (h1 h2 : Nat) (r1 r2 : ResV) (v4 : Value) : Array Value := ((resc r1 (bx h1) nx nx nx).toList ++ (resc r2 nx (bx h2) nx v4).toList).toArray
theorem resc_len (r : ResV) (a b c d : Value) : (resc r a b c d).toList.length = 21 := rfl
structure Gv (W : World) (g h1 h2 : Nat) (r1 r2 : ResV) (v4 : Value) : Prop where
 b1 : ∃ fr, W.heap[h1]? = some (.cells #[.int .u8 120] 5 fr)
 b2 : ∃ fr, W.heap[h2]? = some (.cells #[.int .u8 120] 5 fr)
 row : Blk W g 35 (gcs h1 h2 r1 r2 v4)
section
variable {W W' : World} {g h1 h2 : Nat} {r1 r2 : ResV} {v4 : Value}
theorem Gv.keep (h : Gv W g h1 h2 r1 r2 v4) {S : Nat → Prop} (ho : Only S W W') (hS : ∀ k, S k → k ≠ g ∧ ∀ c fr, W.heap[k]? ≠ some (.cells c 5 fr)) : Gv W' g h1 h2 r1 r2 v4 := by
 obtain ⟨⟨f1, e1⟩, ⟨f2, e2⟩, h3⟩ := h
 refine ⟨⟨f1, (ho.block h1 (lt_of_heap e1) (fun hs => (hS _ hs).2 _ _ e1)).trans e1⟩, ⟨f2, (ho.block h2 (lt_of_heap e2) (fun hs => (hS _ hs).2 _ _ e2)).trans e2⟩, h3.only ho (fun hs => (hS _ hs).1 rfl)⟩
theorem Gv.below (h : Gv W g h1 h2 r1 r2 v4) (hb : Below W.heap.size W W') : Gv W' g h1 h2 r1 r2 v4 :=
 h.keep (S := fun _ => False) (Only.of_below hb) (fun _ e => e.elim)
theorem Gv.set_ (h : Gv W g h1 h2 r1 r2 v4) (i : Nat) (u : Value) {r1' r2' : ResV} {v4' : Value} (hc : (gcs h1 h2 r1 r2 v4).setIfInBounds i u = gcs h1 h2 r1' r2' v4') : Gv (W.setCell ⟨g, i, none⟩ u) g h1 h2 r1' r2' v4' := by
 have ho := Only.set1 W g i u
 obtain ⟨⟨f1, e1⟩, ⟨f2, e2⟩, h3⟩ := h
 have hn : ∀ k fr, W.heap[k]? = some (.cells #[.int .u8 120] 5 fr) → k ≠ g := fun k fr e hk => by
  subst hk
  unfold Blk at h3
  rw [h3] at e
  injection e with e
  injection e with _ e _
  exact absurd e (by decide)
 exact ⟨⟨f1, (ho.block h1 (lt_of_heap e1) (hn _ _ e1)).trans e1⟩, ⟨f2, (ho.block h2 (lt_of_heap e2) (hn _ _ e2)).trans e2⟩, hc ▸ h3.set_ i u⟩
theorem Gv.otherO (h : Gv W g h1 h2 r1 r2 v4) {k : Nat} {cs : Array Value} (hk : Blk W k 35 cs) (hne : k ≠ g) (ho : Only (fun j => j = k) W W') : Gv W' g h1 h2 r1 r2 v4 :=
 h.keep ho (fun j hj => by
  subst hj
  refine ⟨hne, fun c fr e => ?_⟩
  unfold Blk at hk
  rw [hk] at e
  injection e with e
  injection e with _ e _
  exact absurd e (by decide))
theorem Gv.other (h : Gv W g h1 h2 r1 r2 v4) {k : Nat} {cs : Array Value} (hk : Blk W k 35 cs) (hne : k ≠ g) (i : Nat) (u : Value) : Gv (W.setCell ⟨k, i, none⟩ u) g h1 h2 r1 r2 v4 :=
 h.keep (Only.set1 W k i u) (fun j hj => by
  subst hj
  refine ⟨hne, fun c fr e => ?_⟩
  unfold Blk at hk
  rw [hk] at e
  injection e with e
  injection e with _ e _
  exact absurd e (by decide))
end
theorem bx_bts {W : World} {h : Nat} (hb : ∃ fr, W.heap[h]? = some (.cells #[.int .u8 120] 5 fr)) (B : Nat) : Bts W B 5 (bx h) [120] := by
 obtain ⟨fr, e⟩ := hb
 refine ⟨_, 1, rfl, zN _, by unfold maxLen; omega, (fun h => by cases h), fun _ => ⟨h, 0, rfl, lt_of_heap e, .inr ⟨_, fr, e⟩, fun i hi => ?_⟩⟩
 have : i = 0 := by simp at hi; omega
 subst this
 unfold World.cell?
 rw [e]
 rfl
def gq1 (h1 : Nat) (cost : Int) : RQ := ⟨gr1 cost, bx h1, nx, nx, nx, []⟩
def gq2 (h2 : Nat) (at_ err : Int) (hit : Bool) (len cost : Int) (v4 : Value) (xs : List (EvV × Value)) : RQ := ⟨gr2 at_ err hit (xs.map Prod.fst) len cost, nx, bx h2, nx, v4, xs⟩
theorem evs_nil (W : World) (B : Nat) : EvsAt W B nx [] := ⟨⟨none, 0, rfl, zN _, Nat.zero_le _, fun _ => rfl, fun h => by simp at h⟩, by simp⟩
theorem Gv.rs {W : World} {g h1 h2 : Nat} {co at_ err len cost : Int} {hit : Bool} {v4 : Value} {xs : List (EvV × Value)} (h : Gv W g h1 h2 (gr1 co) (gr2 at_ err hit (xs.map Prod.fst) len cost) v4) (hx : EvsAt W W.heap.size v4 xs) :
  RsAt W W.heap.size (.slice (some ⟨g, 0, none⟩) 2 2) [gq1 h1 co, gq2 h2 at_ err hit len cost v4 xs] := by
 have k1 : ka.size ≤ maxLen := by have : ka.size = 1 := rfl; unfold maxLen; omega
 refine ⟨⟨_, 2, rfl, zN _, by unfold maxLen; omega, (fun h => by cases h), fun _ => ⟨g, 0, rfl, ⟨h.row.lt, h.row.lt⟩, fun i p hi j u hu => ?_⟩⟩, fun p hp => ?_⟩
 ·have hj : j < 21 := (Array.getElem?_eq_some_iff.1 hu).1
  rw [Nat.zero_add]
  refine h.row.cell (i * 21 + j) u ?_
  unfold gcs
  match i, hi with
  |0, hi =>
   have : gq1 h1 co = p := by simpa using hi
   subst this
   rw [List.getElem?_toArray, Nat.zero_mul, Nat.zero_add, List.getElem?_append_left (by rw [resc_len]; exact hj), Array.getElem?_toList]
   exact hu
  |1, hi =>
   have : gq2 h2 at_ err hit len cost v4 xs = p := by simpa using hi
   subst this
   rw [List.getElem?_toArray, List.getElem?_append_right (by rw [resc_len]; omega), resc_len, show 1 * 21 + j - 21 = j by omega, Array.getElem?_toList]
   exact hu
  |i + 2, hi => simp at hi
 ·rcases List.mem_cons.1 hp with rfl | hp
  ·exact ⟨⟨bx_bts h.b1 _, Bts.nil _ _ _, Bts.nil _ _ _, evs_nil _ _, rfl⟩, ⟨Int.le_refl _, Int.le_refl _, k1, by unfold maxLen; show 1 ≤ _; omega⟩⟩
  ·obtain rfl := List.mem_singleton.1 hp
   exact ⟨⟨Bts.nil _ _ _, bx_bts h.b2 _, Bts.nil _ _ _, hx, rfl⟩, ⟨by show (0 : Int) ≤ 3; omega, Int.le_refl _, k1, by unfold maxLen; show 0 ≤ _; omega⟩⟩
structure GvO (W : World) (g h1 h2 : Nat) (cs : Array Value) : Prop where
 b1 : ∃ fr, W.heap[h1]? = some (.cells #[.int .u8 120] 5 fr)
 b2 : ∃ fr, W.heap[h2]? = some (.cells #[.int .u8 120] 5 fr)
 row : Blk W g 35 cs
theorem GvO.gv {W : World} {g h1 h2 : Nat} {r1 r2 : ResV} {v4 : Value} (h : GvO W g h1 h2 (gcs h1 h2 r1 r2 v4)) : Gv W g h1 h2 r1 r2 v4 := ⟨h.b1, h.b2, h.row⟩
theorem gcs_lit (h1 h2 : Nat) : #[.int .i64 1, .int .u64 0, .string ⟨#[97]⟩, .slice (some ⟨h1, 0, none⟩) 1 1, .int .u64 0, .int .i64 0, .int .i64 0, .int .i64 0, .int .u64 0, .int .u64 0, .int .i64 0, .bool false, .slice none 0 0, .string ⟨#[]⟩, .slice none 0 0, .int .u64 0, .int .u64 0, .int .i64 0, .slice none 0 0, .int .i64 1, .int .i64 50, .int .i64 3, .int .u64 3, .string ⟨#[97]⟩, .slice none 0 0, .int .u64 0, .int .i64 0, .int .i64 0, .int .i64 0, .int .u64 0, .int .u64 3, .int .i64 0, .bool true, .slice (some ⟨h2, 0, none⟩) 1 1, .string ⟨#[]⟩, .slice none 0 0, .int .u64 0, .int .u64 0, .int .i64 0, .slice none 0 0, .int .i64 1, .int .i64 50] = gcs h1 h2 (gr1 50) (gr2 3 0 true [] 1 50) nx := by
 rfl
def GivRet (w : World) (e : Ending) (w' : World) : Prop :=
 ∃ g h1 h2, e = .returned (.slice (some ⟨g, 0, none⟩) 2 2) ∧ w.heap.size ≤ g ∧ GvO w' g h1 h2 (gcs h1 h2 (gr1 50) (gr2 3 0 true [] 1 50) nx) ∧ Below w.heap.size w w'
set_option maxRecDepth 100000 in
set_option maxHeartbeats 8000000 in
theorem given_any (w : World) : Calls Try.prog 7 #[] w (GivRet w) := by
 have kc := fun (w : World) (C : Array Value) (n c : Nat) => Lib.run_convert_bytes_const (P := Try.prog) w 27 5 C n c Try.underlying27 Try.underlying5
 have kc1 : ∀ (w : World) (o : Obj) (C : Array Value) (n c : Nat), (convert 27 27 (.slice (some ⟨w.heap.size + 1, 0, none⟩) n c)).run Try.prog ((w.alloc o).alloc (.cells C 5)) = .ok (.slice (some ⟨w.heap.size + 1, 0, none⟩) n c) ((w.alloc o).alloc (.cells C 5 (C.size, C.size + 1))) := fun w o C n c => by
  have := kc (w.alloc o) C n c
  rwa [World.size_alloc] at this
 go_enter Try.func7, Try.ntmps7
 go_wp2_with fail
 go_ret
 unfold GivRet
 rw [gcs_lit]
 refine ⟨w.heap.size + 1 + 1, w.heap.size, w.heap.size + 1, rfl, by omega, ?_⟩
 generalize gcs w.heap.size (w.heap.size + 1) (gr1 50) (gr2 3 0 true [] 1 50) nx = cs
 refine ⟨⟨⟨(1, 2), ?_⟩, ⟨(1, 2), ?_⟩, Blk.new3 w _ _ 35 _⟩, (((zL _ _).alloc (zN _) _).alloc (by rw [World.size_alloc]; omega) _).alloc (by rw [World.size_alloc, World.size_alloc]; omega) _⟩
 ·exact (Below.heap_alloc _ _ _ (by rw [World.size_alloc, World.size_alloc]; omega)).trans ((Below.heap_alloc _ _ _ (by rw [World.size_alloc]; omega)).trans (heap_alloc_new w _))
 ·have h := heap_alloc_new (w.alloc (.cells #[.int .u8 120] 5 (1, 2))) (.cells #[.int .u8 120] 5 (1, 2))
  rw [World.size_alloc] at h
  exact (Below.heap_alloc _ _ _ (by rw [World.size_alloc, World.size_alloc]; omega)).trans h
end Go.Proofs.Ytnabbimompapfaa
namespace Go.Proofs.Ytnabbimompapfaa
open Go Go.RowKit
def c49 : CfgV := ⟨1, 49, 0, 0, false⟩
def fulR (t n : Int) : ResV := ⟨⟨10, 2, ⟨#[]⟩, [], 0, 0, 0, 0, 0⟩, t, 0, false, [], ent0, 0, [], n, 0⟩
def fulS (t : Int) : PJ := { start c49 with now := t }
theorem ful_add {t : Int} (h : 0 ≤ t ∧ t ≤ 100000) : addP t 2 = t + 2 := by
 unfold addP neverT
 rw [if_neg (by omega)]
theorem ful_step {t : Int} (h : 0 ≤ t ∧ t ≤ 100000) (n : Int) : jstep (fulS t) (fulR (t + 2) n) = if n = 0 then .ok (fulS (t + 2)) else .error 5 := by
 have ha := ful_add h
 unfold jstep
 rw [show addP (fulS t).now (fulR (t + 2) n).op.ticks = t + 2 from ha]
 rw [if_neg (by simp [fulR, rightP])]
 rw [if_neg (by simp [fulR, refusedP])]
 rw [if_neg (by simp [fulR])]
 simp [fulS, fulR, eventsP, start, dueE, expireP, ownE, stripP, noExp, effP, effA, effB, evictP, withinP, costP, findP, readsP, endP, ent0, want0, c49]
def fulL (bd : Int) : Nat → Nat → List ResV
 |_, 0 => []
 |k, n + 1 => fulR (2 * k + 2) (if (k : Int) = bd then 1 else 0) :: fulL bd (k + 1) n
theorem fulL_len (bd : Int) : ∀ k n, (fulL bd k n).length = n
 |_, 0 => rfl
 |k, n + 1 => by rw [fulL, List.length_cons, fulL_len bd (k + 1) n]
theorem fulL_get (bd : Int) : ∀ k n i, i < n → (fulL bd k n)[i]? = some (fulR (2 * (k + i : Nat) + 2) (if ((k + i : Nat) : Int) = bd then 1 else 0))
 |_, 0, _, h => by omega
 |k, n + 1, 0, _ => by rw [fulL, Nat.add_zero]; rfl
 |k, n + 1, i + 1, h => by rw [fulL, List.getElem?_cons_succ, fulL_get bd (k + 1) n i (by omega), show k + 1 + i = k + (i + 1) by omega]
theorem fulL_mem (bd : Int) : ∀ k n, ∀ r ∈ fulL bd k n, ∃ t m, r = fulR t m
 |_, 0, r, h => by cases h
 |k, n + 1, r, h => by
  rw [fulL] at h
  rcases List.mem_cons.1 h with h | h
  ·exact ⟨_, _, h⟩
  ·exact fulL_mem bd (k + 1) n r h
theorem ful_jall (bd : Int) : ∀ n k, k + n ≤ 5000 → jall (fulL bd k n) (fulS (2 * k)) k = if (k : Int) ≤ bd ∧ bd < k + n then ((bd, 5), fulS (2 * bd)) else ((-1, 0), fulS (2 * (k + n)))
 |0, k, _ => by rw [fulL, jall, if_neg (by omega)]; simp
 |n + 1, k, h => by
  rw [fulL, jall, ful_step (by omega)]
  by_cases hb : (k : Int) = bd
  ·rw [if_pos hb, if_neg (by decide), if_pos (by omega)]
   subst hb
   rfl
  ·rw [if_neg hb, if_pos rfl]
   dsimp only
   have := ful_jall bd n (k + 1) (by omega)
   rw [show ((2 : Int) * (k + 1 : Nat)) = 2 * k + 2 by omega] at this
   rw [this]
   by_cases hc : (k : Int) ≤ bd ∧ bd < k + (n + 1 : Nat)
   ·rw [if_pos (by omega), if_pos hc]
   ·rw [if_neg (by omega), if_neg hc]
    rw [show (2 * (((k + 1 : Nat) : Int) + (n : Int))) = 2 * (k + (n + 1 : Nat)) by omega]
theorem ful_all (bd : Int) (n : Nat) (h : n ≤ 5000) : jall (fulL bd 0 n) (start c49) 0 = if 0 ≤ bd ∧ bd < n then ((bd, 5), fulS (2 * bd)) else ((-1, 0), fulS (2 * n)) := by
 have := ful_jall bd n 0 (by omega)
 have e : fulS 0 = start c49 := rfl
 rw [← e]
 simpa using this
theorem ful_check (bd : Int) (n : Nat) (h : n ≤ 5000) : checkP c49 (fulL bd 0 n) = if 4096 < n then (0, 0, 7) else if 0 ≤ bd ∧ bd < n then (bd, 5, 0) else (-1, 0, 0) := by
 unfold checkP
 rw [if_neg (by decide), fulL_len, ful_all bd n h]
 split
 ·rfl
 ·split <;> rfl
theorem ful_live (bd : Int) (n : Nat) (h : n ≤ 5000) : liveP c49 (fulL bd 0 n) = ([], if 4096 < n then 7 else if 0 ≤ bd ∧ bd < n then 10 else 0) := by
 unfold liveP
 rw [ful_check bd n h, ful_all bd n h]
 by_cases h1 : 4096 < n
 ·simp [h1]
 ·by_cases h2 : 0 ≤ bd ∧ bd < n
  ·simp [h1, h2]
  ·simp [h1, h2]; rfl
end Go.Proofs.Ytnabbimompapfaa
namespace Go.Proofs.Ytnabbimompapfaa
open Go Go.RowKit
section
variable {P : Program}
theorem wpList_store_at {ops : Array Oper} {rest : List Oper} {o : Oper} {a : Act} {w : World} {Q : Exit → Act → World → Prop} (hgd : o.guard = none) (ty : TypeId) (x y : Operand) (ho : o.op = .store ty x y)
  (g off : Nat) (cells : Array Value) (hx : a.eval x = .pointer (some ⟨g, off, none⟩)) (hy : a.eval y = .agg cells)
  (t : TypeId) (old : Array Value) (hg : w.heap[g]? = some (.cells old t (0, 0))) (hi : (P.info? ty).map (·.size) = some cells.size)
  (hold : off + cells.size ≤ old.size) (h1 : cells.all (·.oneCell') = true)
  {W' : World} (hW : w.setRow g (old.toList.take off ++ cells.toList ++ old.toList.drop (off + cells.size)).toArray = W') (h : wpList P ops Q rest (a.put o.dst undef) W') : wpList P ops Q (o :: rest) a w := by
 subst hW
 have hs := run_storeCells_at (P := P) g off t cells.toList 0 old w hg (by simpa using hold) (fun v hv => (Array.all_eq_true_iff_forall_mem.1 h1) v (by simpa using hv))
 rw [Nat.add_zero, Array.length_toList] at hs
 have hv : (storeVar ty ⟨g, off, none⟩ (.agg cells)).run P w = .ok () (w.setRow g (old.toList.take off ++ cells.toList ++ old.toList.drop (off + cells.size)).toArray) := by
  cases hq : P.info? ty with
  |none => simp [hq] at hi
  |some i =>
   have hz : cells.size = i.size := by simp [hq] at hi; omega
   rw [hz] at hs
   simp [storeVar, sizeOf, typeInfo, hq, Value.cells, hz, hs]
 refine wpList_plain hgd fun _ hK => ?_
 unfold Oper.wp execOp
 simp only [ho, hx, hy, Instr.storeAt, Instr.sureAddr, Sem.run_bind, Sem.run_pure, Result.andThen_ok, hv]
 exact hK _ _ h
end
theorem splice_get {α : Type} (old cs : List α) (off m : Nat) (hold : off + cs.length ≤ old.length) :
  (old.take off ++ cs ++ old.drop (off + cs.length))[m]? = if m < off then old[m]? else if m < off + cs.length then cs[m - off]? else old[m]? := by
 have h0 : (old.take off).length = off := by rw [List.length_take]; omega
 by_cases h1 : m < off
 ·rw [if_pos h1, List.append_assoc, List.getElem?_append_left (by omega), List.getElem?_take_of_lt h1]
 ·rw [if_neg h1]
  by_cases h2 : m < off + cs.length
  ·rw [if_pos h2, List.getElem?_append_left (by rw [List.length_append]; omega), List.getElem?_append_right (by omega), h0]
  ·rw [if_neg h2, List.getElem?_append_right (by rw [List.length_append]; omega), List.length_append, h0, List.getElem?_drop]
   congr 1; omega
def fulC (i : Nat) (bd : Int) : Array Value := resc (fulR (2 * i + 2) (if (i : Int) = bd then 1 else 0)) (.slice none 0 0) (.slice none 0 0) (.slice none 0 0) (.slice none 0 0)
theorem fulC_size (i : Nat) (bd : Int) : (fulC i bd).size = 21 := rfl
def FulM (W : World) (g many k : Nat) (bd : Int) : Prop :=
 ∃ cs : Array Value, Blk W g 35 cs ∧ cs.size = many * 21 ∧ ∀ i, i < k → ∀ j u, (fulC i bd)[j]? = some u → cs[i * 21 + j]? = some u
theorem FulM.next {W : World} {g many k : Nat} {cs : Array Value} (hb : Blk W g 35 cs) (hs : cs.size = many * 21) (hc : ∀ i, i < k → ∀ j u, (fulC i (-1))[j]? = some u → cs[i * 21 + j]? = some u) (hk : k < many) :
  FulM (W.setRow g (cs.toList.take (k * 21) ++ (fulC k (-1)).toList ++ cs.toList.drop (k * 21 + (fulC k (-1)).size)).toArray) g many (k + 1) (-1) := by
 have hl : k * 21 + 21 ≤ many * 21 := by omega
 refine ⟨_, hb.row _, ?_, fun i hi j u hu => ?_⟩
 ·simp only [List.size_toArray, List.length_append, List.length_take, List.length_drop, Array.length_toList, fulC_size]
  omega
 ·have hj : j < 21 := (Array.getElem?_eq_some_iff.1 hu).1
  rw [List.getElem?_toArray]
  have e : (fulC k (-1)).size = (fulC k (-1)).toList.length := by simp
  rw [e, splice_get _ _ _ _ (by simp only [Array.length_toList, fulC_size]; omega)]
  by_cases h1 : i < k
  ·rw [if_pos (by omega), Array.getElem?_toList]; exact hc i h1 j u hu
  ·obtain rfl : i = k := by omega
   rw [if_neg (by omega), if_pos (by simp only [Array.length_toList, fulC_size]; omega), show i * 21 + j - i * 21 = j by omega, Array.getElem?_toList]
   exact hu
theorem FulM.bad {W : World} {g many bd : Nat} (h : FulM W g many many (-1)) (hb : bd < many) : FulM (W.setCell ⟨g, bd * 21 + 19, none⟩ (.int .i64 1)) g many many bd := by
 obtain ⟨cs, h1, h2, h3⟩ := h
 refine ⟨_, h1.set_ _ _, by rw [Array.size_setIfInBounds]; exact h2, fun i hi j u hu => ?_⟩
 have hj : j < 21 := (Array.getElem?_eq_some_iff.1 hu).1
 by_cases hij : bd * 21 + 19 = i * 21 + j
 ·have e1 : i = bd := by omega
  have e2 : j = 19 := by omega
  subst e1 e2
  rw [Array.getElem?_setIfInBounds_self_of_lt (by omega)]
  unfold fulC at hu
  rw [if_pos rfl] at hu
  exact hu
 ·rw [Array.getElem?_setIfInBounds_ne hij]
  refine h3 i hi j u ?_
  unfold fulC at hu ⊢
  rw [if_neg (by omega)]
  by_cases hib : i = bd
  ·subst hib
   rw [if_pos rfl] at hu
   have h19 : j ≠ 19 := fun e => hij (by omega)
   clear h1 h2 h3 hi hij hb
   match j, hj, h19, hu with
   |0, _, _, hu | 1, _, _, hu | 2, _, _, hu | 3, _, _, hu | 4, _, _, hu | 5, _, _, hu | 6, _, _, hu | 7, _, _, hu | 8, _, _, hu | 9, _, _, hu | 10, _, _, hu | 11, _, _, hu | 12, _, _, hu | 13, _, _, hu | 14, _, _, hu | 15, _, _, hu | 16, _, _, hu | 17, _, _, hu | 18, _, _, hu | 20, _, _, hu => exact hu
   |19, _, h, _ => exact absurd rfl h
   |n + 21, h, _, _ => omega
  ·rw [if_neg (by omega)] at hu
   exact hu
theorem FulM.none_ {W : World} {g many : Nat} {bd : Int} (h : FulM W g many many (-1)) (hb : ¬ (0 ≤ bd ∧ bd < many)) : FulM W g many many bd := by
 obtain ⟨cs, h1, h2, h3⟩ := h
 refine ⟨cs, h1, h2, fun i hi j u hu => h3 i hi j u ?_⟩
 unfold fulC at hu ⊢
 rw [if_neg (by omega)] at hu ⊢
 exact hu
theorem FulM.hole {W : World} {g many b : Nat} (h : FulM W g many many (-1)) (hb : b < many) : W.cell? ⟨g, b * 21 + 19, none⟩ = some (.int .i64 0) ∧ W.frozen? ⟨g, b * 21 + 19, none⟩ = false := by
 obtain ⟨cs, h1, h2, h3⟩ := h
 exact ⟨h1.cell _ _ (h3 b hb 19 _ (by unfold fulC; rw [if_neg (by omega)]; rfl)), h1.frozen _⟩
def fulQ (r : ResV) : RQ := ⟨r, .slice none 0 0, .slice none 0 0, .slice none 0 0, .slice none 0 0, []⟩
theorem fulQ_map (l : List ResV) : (l.map fulQ).map RQ.r = l := by rw [List.map_map]; exact List.map_id' l
theorem FulM.rs {W : World} {g many : Nat} {bd : Int} (h : FulM W g many many bd) (hm : many ≤ 5000) : RsAt W W.heap.size (.slice (some ⟨g, 0, none⟩) many many) ((fulL bd 0 many).map fulQ) := by
 obtain ⟨cs, h1, h2, h3⟩ := h
 have hl : ((fulL bd 0 many).map fulQ).length = many := by rw [List.length_map, fulL_len]
 refine ⟨⟨_, many, by rw [hl], by rw [hl]; omega, by unfold maxLen; omega, (fun h => by cases h), fun _ => ⟨g, 0, rfl, ⟨h1.lt, h1.lt⟩, fun i p hi j u hu => ?_⟩⟩, fun p hp => ?_⟩
 ·rw [List.getElem?_map] at hi
  have hin : i < many := by
   rcases Nat.lt_or_ge i many with h | h
   ·exact h
   ·rw [List.getElem?_eq_none (by rw [fulL_len]; exact h)] at hi; cases hi
  rw [fulL_get _ _ _ _ hin, Nat.zero_add] at hi
  cases hi
  rw [Nat.zero_add]
  exact h1.cell _ _ (h3 i hin j u hu)
 ·obtain ⟨r, hr, rfl⟩ := List.mem_map.1 hp
  obtain ⟨t, n, rfl⟩ := fulL_mem _ _ _ r hr
  exact ⟨⟨Bts.nil _ _ _, Bts.nil _ _ _, Bts.nil _ _ _, evs_nil _ _, rfl⟩, ⟨Int.natCast_nonneg 2, Int.le_refl _, Nat.zero_le _, Nat.zero_le _⟩⟩
theorem ful_ok (bd : Int) (n : Nat) : ∀ q ∈ (fulL bd 0 n).map fulQ, RqOk q := fun q hq => by
 obtain ⟨r, hr, rfl⟩ := List.mem_map.1 hq
 obtain ⟨t, n, rfl⟩ := fulL_mem _ _ _ r hr
 exact ⟨⟨by show (-9223372036854775808 : Int) ≤ 0; decide, by show (0 : Int) ≤ 9223372036854775807; decide⟩, fun p hp => by cases hp⟩
end Go.Proofs.Ytnabbimompapfaa
namespace Go.Proofs.Ytnabbimompapfaa
open Go Go.RowKit
def c27 : CfgV := ⟨2, 100, 0, 0, false⟩
def kev : EvV := ⟨2, ka, [120], 1, 18446744073709551615, 3⟩
def kent : EntV := ⟨ka, [120], 18446744073709551615, 1⟩
set_option maxRecDepth 100000 in
theorem kc_ok : decide (checkP c27 [gr1 50, gr2 3 0 true [] 1 50] = (-1, 0, 0)) = true := by decide +kernel
theorem kc_a : decide (checkP c27 [gr1 51, gr2 3 0 true [] 1 50] = (0, 5, 0)) = true := by decide +kernel
theorem kc_b : decide (checkP c27 [gr1 50, gr2 2 0 true [] 1 50] = (1, 1, 0)) = true := by decide +kernel
theorem kc_d : decide (checkP c27 [gr1 50, gr2 3 0 false [] 1 50] = (1, 6, 0)) = true := by decide +kernel
theorem kc_f : decide (checkP c27 [gr1 50, gr2 3 2 true [] 1 50] = (1, 8, 0)) = true := by decide +kernel
theorem kc_g : decide (checkP c27 [gr1 50, gr2 3 0 true [kev] 0 0] = (1, 4, 0)) = true := by decide +kernel
theorem kl_ok : liveP c27 [gr1 50, gr2 3 0 true [] 1 50] = ([kent], 0) := by decide +kernel
theorem kl_d : liveP c27 [gr1 50, gr2 3 0 false [] 1 50] = ([], 10) := by decide +kernel
theorem kc_0 : checkP ⟨0, 100, 0, 0, false⟩ [] = (0, 0, 240) := by decide +kernel
theorem set_a (h1 h2 : Nat) : (gcs h1 h2 (gr1 50) (gr2 3 0 true [] 1 50) nx).setIfInBounds 20 (.int .i64 51) = gcs h1 h2 (gr1 51) (gr2 3 0 true [] 1 50) nx := by
 unfold gcs; rw [List.setIfInBounds_toArray]; rfl
theorem set_b (h1 h2 : Nat) : (gcs h1 h2 (gr1 50) (gr2 3 0 true [] 1 50) nx).setIfInBounds 30 (.int .u64 2) = gcs h1 h2 (gr1 50) (gr2 2 0 true [] 1 50) nx := by
 unfold gcs; rw [List.setIfInBounds_toArray]; rfl
theorem set_d (h1 h2 : Nat) : (gcs h1 h2 (gr1 50) (gr2 3 0 true [] 1 50) nx).setIfInBounds 32 (.bool false) = gcs h1 h2 (gr1 50) (gr2 3 0 false [] 1 50) nx := by
 unfold gcs; rw [List.setIfInBounds_toArray]; rfl
theorem set_f (h1 h2 : Nat) : (gcs h1 h2 (gr1 50) (gr2 3 0 true [] 1 50) nx).setIfInBounds 31 (.int .i64 2) = gcs h1 h2 (gr1 50) (gr2 3 2 true [] 1 50) nx := by
 unfold gcs; rw [List.setIfInBounds_toArray]; rfl
theorem set_g1 (h1 h2 : Nat) (v4 : Value) : (gcs h1 h2 (gr1 50) (gr2 3 0 true [] 1 50) nx).setIfInBounds 39 v4 = gcs h1 h2 (gr1 50) (gr2 3 0 true [kev] 1 50) v4 := by
 unfold gcs; rw [List.setIfInBounds_toArray]; rfl
theorem set_g2 (h1 h2 : Nat) (v4 : Value) : (gcs h1 h2 (gr1 50) (gr2 3 0 true [kev] 1 50) v4).setIfInBounds 40 (.int .i64 0) = gcs h1 h2 (gr1 50) (gr2 3 0 true [kev] 0 50) v4 := by
 unfold gcs; rw [List.setIfInBounds_toArray]; rfl
theorem set_g3 (h1 h2 : Nat) (v4 : Value) : (gcs h1 h2 (gr1 50) (gr2 3 0 true [kev] 0 50) v4).setIfInBounds 41 (.int .i64 0) = gcs h1 h2 (gr1 50) (gr2 3 0 true [kev] 0 0) v4 := by
 unfold gcs; rw [List.setIfInBounds_toArray]; rfl
theorem gcs_at (h1 h2 : Nat) (r1 r2 : ResV) (v4 : Value) : (gcs h1 h2 r1 r2 v4)[20]? = some (.int .i64 r1.cost) ∧ (gcs h1 h2 r1 r2 v4)[30]? = some (.int .u64 r2.at_) ∧ (gcs h1 h2 r1 r2 v4)[31]? = some (.int .i64 r2.err) ∧ (gcs h1 h2 r1 r2 v4)[32]? = some (.bool r2.hit) ∧ (gcs h1 h2 r1 r2 v4)[39]? = some v4 ∧ (gcs h1 h2 r1 r2 v4)[40]? = some (.int .i64 r2.len) ∧ (gcs h1 h2 r1 r2 v4)[41]? = some (.int .i64 r2.cost) := ⟨rfl, rfl, rfl, rfl, rfl, rfl, rfl⟩
def cc27 : Array Value := #[.int .i64 2, .int .i64 100, .int .i64 0, .int .u64 0, .bool false]
theorem cfg5 {W : World} {g : Nat} (h : Blk W g 37 cc27) : W.cell? ⟨g, 0, none⟩ = some (.int .i64 2) ∧ W.cell? ⟨g, 1, none⟩ = some (.int .i64 100) ∧ W.cell? ⟨g, 2, none⟩ = some (.int .i64 0) ∧ W.cell? ⟨g, 3, none⟩ = some (.int .u64 0) ∧ W.cell? ⟨g, 4, none⟩ = some (.bool false) :=
 ⟨h.cell 0 _ rfl, h.cell 1 _ rfl, h.cell 2 _ rfl, h.cell 3 _ rfl, h.cell 4 _ rfl⟩
theorem gq_ok {h1 h2 : Nat} {co at_ err len cost : Int} {hit : Bool} {v4 : Value} {xs : List (EvV × Value)} (hx : ∀ p ∈ xs, p.1.key.size ≤ maxLen) : ∀ q ∈ [gq1 h1 co, gq2 h2 at_ err hit len cost v4 xs], RqOk q := by
 intro q hq
 rcases List.mem_cons.1 hq with rfl | hq
 ·exact ⟨⟨by show -9223372036854775808 ≤ (0 : Int); omega, by show (0 : Int) ≤ 9223372036854775807; omega⟩, fun p hp => (by cases hp)⟩
 ·obtain rfl := List.mem_singleton.1 hq
  exact ⟨⟨by show -9223372036854775808 ≤ (0 : Int); omega, by show (0 : Int) ≤ 9223372036854775807; omega⟩, hx⟩
theorem no_keys : ∀ p ∈ ([] : List (EvV × Value)), p.1.key.size ≤ maxLen := fun p hp => by cases hp
def gqs (h1 h2 : Nat) (co at_ err : Int) (hit : Bool) : List RQ := [gq1 h1 co, gq2 h2 at_ err hit 1 50 nx []]
theorem gqs_ok {h1 h2 : Nat} {co at_ err : Int} {hit : Bool} : ∀ q ∈ gqs h1 h2 co at_ err hit, RqOk q := gq_ok no_keys
theorem Gv.rs0 {W : World} {g h1 h2 : Nat} {co at_ err : Int} {hit : Bool} (h : Gv W g h1 h2 (gr1 co) (gr2 at_ err hit [] 1 50) nx) : RsAt W W.heap.size (.slice (some ⟨g, 0, none⟩) 2 2) (gqs h1 h2 co at_ err hit) := Gv.rs (xs := []) h (evs_nil _ _)
theorem judge0 {W : World} {g h1 h2 : Nat} {co at_ err want x : Int} {hit : Bool} (h : Gv W g h1 h2 (gr1 co) (gr2 at_ err hit [] 1 50) nx) (hd : decide (checkP c27 [gr1 co, gr2 at_ err hit [] 1 50] = (want, x, 0)) = true) :
  Calls Try.prog 8 #[.agg cc27, .slice (some ⟨g, 0, none⟩) 2 2, .int .i64 want, .int .i64 x] W fun e w' => e = .returned (.bool true) ∧ Below W.heap.size W w' := by
 have hj := judged_any W.heap.size c27 _ _ want x W h.rs0 gqs_ok (zN _) (by show 2 ≤ 60000; omega)
 have e : decide (checkP c27 ((gqs h1 h2 co at_ err hit).map RQ.r) = (want, x, 0)) = true := hd
 rw [e] at hj
 exact hj
theorem row_ents {w : World} {gb ge : Nat} {fr : Nat × Nat} (h1 : w.heap[gb]? = some (.cells #[.int .u8 120] 5 fr)) (h2 : Blk w ge 32 #[.string ka, bx gb, .int .u64 18446744073709551615, .int .u64 1]) : EntsAt w w.heap.size (.slice (some ⟨ge, 0, none⟩) 1 1) [(kent, bx gb)] := by
 refine ⟨⟨_, 1, rfl, zN _, by unfold maxLen; omega, (fun h => by cases h), fun _ => ⟨ge, 0, rfl, ⟨h2.lt, h2.lt⟩, fun i p hi j u hu => ?_⟩⟩, fun p hp => ?_⟩
 ·have : i = 0 := by have := (List.getElem?_eq_some_iff.1 hi).1; simp at this; exact this
  subst this
  have : (kent, bx gb) = p := by simpa using hi
  subst this
  rw [Nat.zero_add, Nat.zero_mul, Nat.zero_add]
  exact h2.cell j u hu
 ·obtain rfl := List.mem_singleton.1 hp
  exact bx_bts ⟨fr, h1⟩ _
theorem row_evs {w : World} {gb ge : Nat} {fr : Nat × Nat} (h1 : w.heap[gb]? = some (.cells #[.int .u8 120] 5 fr)) (h2 : Blk w ge 50 #[.int .i64 2, .string ka, bx gb, .int .u64 1, .int .u64 18446744073709551615, .int .u64 3]) : EvsAt w w.heap.size (.slice (some ⟨ge, 0, none⟩) 1 1) [(kev, bx gb)] := by
 refine ⟨⟨_, 1, rfl, zN _, by unfold maxLen; omega, (fun h => by cases h), fun _ => ⟨ge, 0, rfl, ⟨h2.lt, h2.lt⟩, fun i p hi j u hu => ?_⟩⟩, fun p hp => ?_⟩
 ·have : i = 0 := by have := (List.getElem?_eq_some_iff.1 hi).1; simp at this; exact this
  subst this
  have : (kev, bx gb) = p := by simpa using hi
  subst this
  rw [Nat.zero_add, Nat.zero_mul, Nat.zero_add]
  exact h2.cell j u hu
 ·obtain rfl := List.mem_singleton.1 hp
  exact bx_bts ⟨fr, h1⟩ _
theorem evs_up {w : World} {B B' : Nat} {v : Value} {xs : List (EvV × Value)} (h : EvsAt w B v xs) (hB : B ≤ B') : EvsAt w B' v xs := by
 obtain ⟨⟨A, cap, e, h1, h2, h3, h4⟩, h5⟩ := h
 refine ⟨⟨A, cap, e, h1, h2, h3, fun h0 => ?_⟩, fun p hp => (h5 p hp).up2 hB⟩
 obtain ⟨b, off, ha, hb, hc⟩ := h4 h0
 exact ⟨b, off, ha, ⟨hb.1, Nat.lt_of_lt_of_le hb.2 hB⟩, hc⟩
theorem kev_keys {gb : Nat} : ∀ p ∈ [((kev, bx gb) : EvV × Value)], p.1.key.size ≤ maxLen := fun p hp => by
 obtain rfl := List.mem_singleton.1 hp
 have : ka.size = 1 := rfl
 show ka.size ≤ maxLen
 unfold maxLen; omega
theorem judgeG {W : World} {B g h1 h2 gb : Nat} {v4 : Value} (h : Gv W g h1 h2 (gr1 50) (gr2 3 0 true [kev] 0 0) v4) (hx : EvsAt W B v4 [(kev, bx gb)]) (hB : B ≤ W.heap.size) :
  Calls Try.prog 8 #[.agg cc27, .slice (some ⟨g, 0, none⟩) 2 2, .int .i64 1, .int .i64 4] W fun e w' => e = .returned (.bool true) ∧ Below W.heap.size W w' := by
 have hj := judged_any W.heap.size c27 _ _ 1 4 W (Gv.rs (xs := [(kev, bx gb)]) h (evs_up hx hB)) (gq_ok kev_keys) (zN _) (by show 2 ≤ 60000; omega)
 have e : decide (checkP c27 ([gq1 h1 50, gq2 h2 3 0 true 0 0 v4 [(kev, bx gb)]].map RQ.r) = (1, 4, 0)) = true := kc_g
 rw [e] at hj
 exact hj
theorem rs_nil (W : World) (B : Nat) : RsAt W B (.slice none 0 0) [] := ⟨⟨none, 0, rfl, zN _, Nat.zero_le _, fun _ => rfl, fun h => by simp at h⟩, by simp⟩
theorem check0 (W : World) : Calls Try.prog 5 #[.agg #[.int .i64 0, .int .i64 100, .int .i64 0, .int .u64 0, .bool false], .slice none 0 0] W fun e w' => e = .returned (.tuple #[.int .i64 0, .int .i64 0, .int .i64 240]) ∧ Below W.heap.size W w' := by
 have h := auditCheck_any W.heap.size ⟨0, 100, 0, 0, false⟩ _ [] W (rs_nil _ _) (fun q hq => by cases hq) (zN _) (by show 0 ≤ 60000; omega)
 have e : checkP ⟨0, 100, 0, 0, false⟩ (([] : List RQ).map RQ.r) = (0, 0, 240) := kc_0
 rw [e] at h
 exact h
theorem live0 {W : World} {g h1 h2 : Nat} (h : Gv W g h1 h2 (gr1 50) (gr2 3 0 false [] 1 50) nx) :
  Calls Try.prog 6 #[.agg cc27, .slice (some ⟨g, 0, none⟩) 2 2] W fun e w' => (∃ v, e = .returned (.tuple #[v, .int .i64 10])) ∧ Below W.heap.size W w' := by
 have hj := live_any W.heap.size c27 _ _ W h.rs0 gqs_ok (zN _) (by show 2 ≤ 60000; omega)
 have e : liveP c27 ((gqs h1 h2 50 3 0 false).map RQ.r) = ([], 10) := kl_d
 rw [e] at hj
 refine hj.mono ?_
 rintro e w' ⟨v, ps, base, he, _, _, _, _, hb⟩
 exact ⟨⟨v, he⟩, hb⟩
end Go.Proofs.Ytnabbimompapfaa
namespace Go.Proofs.Ytnabbimompapfaa
open Go Go.RowKit
set_option maxRecDepth 100000 in
set_option maxHeartbeats 4000000 in
theorem kSameE_any (Ba Bb : Nat) (va vb : Value) (ps qs : List (EntV × Value)) (w : World) (ha : EntsAt w Ba va ps) (hb : EntsAt w Bb vb qs) (hn : ps.length ≤ 100000) :
  Calls Try.prog 9 #[va, vb] w fun e w' => e = .returned (.bool (decide (ps.map Prod.fst = qs.map Prod.fst))) ∧ Below w.heap.size w w' := by
 obtain ⟨A, ca, rfl, hca, hma⟩ := ha.cap
 obtain ⟨C, cb, rfl, hcb, hmb⟩ := hb.cap
 have HA := zH ha
 have HB := zH hb
 unfold maxLen at hma hmb
 have hpI : (ps.length : Int) ≤ 100000 := by omega
 have hpc : (ps.length : Int) ≤ (ca : Int) := by omega
 have hqI : (qs.length : Int) ≤ 9223372036854775807 := by omega
 have hqc : (qs.length : Int) ≤ (cb : Int) := by omega
 clear ha hb hca hma hcb hmb hn
 by_cases hl : ps.length = qs.length
 ·have hlI : (ps.length : Int) = (qs.length : Int) := by omega
  have hlb : ((ps.length : Int) != (qs.length : Int)) = false := by simp [hlI]
  have HL := zH hl
  obtain ⟨n, hn⟩ : ∃ n, qs.length = n := ⟨_, rfl⟩
  have hpn : ps.length = n := hl.trans hn
  have HPn := zH hpn
  have HQn := zH hn
  rw [hpn] at hpI hpc HA ⊢
  rw [hn] at hqI hqc HB ⊢
  clear hl hlI hlb hn hpn
  go_enter Try.func9, Try.ntmps9
  go_wp2_with fail
  go_loopw [5] (fun i wr => ∃ m : Nat, m ≤ n ∧ i = .int .i64 m ∧ (∀ (j : Nat) (p q : EntV × Value), j < m → ps[j]? = some p → qs[j]? = some q → p.1 = q.1) ∧ Below w.heap.size w wr) (fun i _ => n - (intOf i).toNat)
  case atStart => exact ⟨0, by omega, rfl, fun j p q hj => by omega, zL _ _⟩
  case round =>
   obtain ⟨m, hm, rfl, hj, hbl⟩ := hrel
   have HJ := zH hj
   have HBl := zH hbl
   clear hj hbl
   by_cases hml : m < n
   ·obtain ⟨⟨x, V⟩, hx⟩ : ∃ p, ps[m]? = some p := ⟨_, List.getElem?_eq_getElem (by rw [HPn.out]; exact hml)⟩
    obtain ⟨⟨y, U⟩, hy⟩ : ∃ p, qs[m]? = some p := ⟨_, List.getElem?_eq_getElem (by rw [HQn.out]; exact hml)⟩
    obtain ⟨qa, oa, hqa, -⟩ := HA.out.at_ hx
    subst hqa
    obtain ⟨qb, ob, hqb, -⟩ := HB.out.at_ hy
    subst hqb
    obtain ⟨XA, xc, hV⟩ := (HA.out.vals _ (List.mem_of_getElem? hx)).form
    dsimp only at hV
    subst hV
    obtain ⟨YA, yc, hU⟩ := (HB.out.vals _ (List.mem_of_getElem? hy)).form
    dsimp only at hU
    subst hU
    have HX := zH hx
    have HY := zH hy
    have hmI : (m : Int) < (n : Int) := by omega
    have hm0 : (0 : Int) ≤ (m : Int) := by omega
    clear hx hy
    go_upto_region 6 with fail
    refine wp_region_noPanic ?_
    refine wp_region_held_drew (S := fun W => EntsAt W Ba (.slice (some ⟨qa, oa, none⟩) n ca) ps ∧ EntsAt W Bb (.slice (some ⟨qb, ob, none⟩) n cb) qs) (by kernel_rfl) ⟨(HA.out.below HBl.out).below (zL _ _).drew, (HB.out.below HBl.out).below (zL _ _).drew⟩ (fun hHeld => ?_)
    have HB3 : Hid (Below w.heap.size w wr.drew) := zH HBl.out.drew
    generalize wr.drew = W3 at hHeld HB3 ⊢
    have H3 := zH hHeld
    refine Pl.go [0, 1, 2, 3, 4, 5, 6, 7] ?_
    iterate 8
     refine tkl (v := ?_) ?_ ?_
     rotate_left 1
     ·intro W hSw
      obtain ⟨_, _, e1, y0, y1, y2, y3⟩ := hSw.1.at_ HX.out; cases e1; obtain ⟨_, _, e2, z0, z1, z2, z3⟩ := hSw.2.at_ HY.out; cases e2; dsimp only at y0 y1 y2 y3 z0 z1 z2 z3
      clear hSw
      go_simp
      try with_reducible rfl
     try dsimp only [zS, zB, zC]
    refine Pl.stop ?_
    refine wpAnyH_ready (rs := [8]) (by kernel_rfl) (by simp) ?_
    refine AllReadyH.cons (o := ⟨_, _, _, _, _, _⟩) rfl (fun F hF => ?_) AllReadyH.nil
    go_simp
    refine (refEqual_any Ba Bb x y _ _ W3 (H3.out.1.vals (x, _) (List.mem_of_getElem? HX.out)) (H3.out.2.vals (y, _) (List.mem_of_getElem? HY.out))).mono ?_
    rintro e2 w5 ⟨rfl, hb5⟩
    have H5 := zH (And.intro (H3.out.1.below hb5) (H3.out.2.below hb5))
    have HB5 := zH (HB3.out.trans (hb5.mono HB3.out.size))
    clear hb5 hHeld
    by_cases hxy : x = y
    ·rw [decide_eq_true hxy]
     have HXY := zH hxy
     clear hxy
     go_wp2_with fail
     refine hF.out _ _ H5.out (fun hHeld => ?_)
     clear hF F
     try simp only [Act.put, zA, zB, zC]
     refine tk 9 (v := ?_) ?_ ?_
     rotate_left 1
     ·intro W hSw
      skip
      clear hSw
      go_simp
      try with_reducible rfl
     try dsimp only [zS, zB, zC]
     refine wpAnyH_done (by kernel_rfl) ?_ _
     refine NoPanic.normal ?_
     go_wp2_with fail
     go_roundw
     case rel => exact ⟨m + 1, by omega, by go_num, fun j p q hj hp hq => by
       rcases (by omega : j < m ∨ j = m) with h1 | h1
       ·exact HJ.out j p q h1 hp hq
       ·subst h1
        rw [HX.out] at hp
        rw [HY.out] at hq
        injection hp with hp
        injection hq with hq
        rw [← hp, ← hq]; exact HXY.out, HB5.out⟩
     case measure => simp [intOf]; omega
    ·have HS : Hid (decide (ps.map Prod.fst = qs.map Prod.fst) = false) := zH (decide_eq_false (fun h => by
      have h2 := congrArg (fun l => l[m]?) h
      simp only [List.getElem?_map, HX.out, HY.out, Option.map_some, Option.some.injEq] at h2
      exact hxy h2))
     rw [decide_eq_false hxy]
     clear hxy
     go_wp2_with fail
     refine hF.out _ _ H5.out (fun hHeld => ?_)
     clear hF F
     try simp only [Act.put, zA, zB, zC]
     refine tk 9 (v := ?_) ?_ ?_
     rotate_left 1
     ·intro W hSw
      skip
      clear hSw
      go_simp
      try with_reducible rfl
     try dsimp only [zS, zB, zC]
     refine wpAnyH_done (by kernel_rfl) ?_ _
     refine NoPanic.normal ?_
     go_wp2_with fail
     go_ret
     first | exact ⟨by rw [HS.out]; rfl, HB5.out⟩ | exact ⟨rfl, HB5.out⟩
   ·obtain rfl : m = n := by omega
    have HS : Hid (decide (ps.map Prod.fst = qs.map Prod.fst) = true) := zH (decide_eq_true (by
     refine List.ext_getElem? fun j => ?_
     rw [List.getElem?_map, List.getElem?_map]
     rcases Nat.lt_or_ge j m with h | h
     ·obtain ⟨p1, h1⟩ : ∃ p1, ps[j]? = some p1 := ⟨_, List.getElem?_eq_getElem (by rw [HPn.out]; exact h)⟩
      obtain ⟨q1, h2⟩ : ∃ q1, qs[j]? = some q1 := ⟨_, List.getElem?_eq_getElem (by rw [HQn.out]; exact h)⟩
      rw [h1, h2, Option.map_some, Option.map_some, HJ.out j _ _ h h1 h2]
     ·rw [List.getElem?_eq_none (by rw [HPn.out]; exact h), List.getElem?_eq_none (by rw [HQn.out]; exact h)]))
    go_wp2_with fail
    go_ret
    first | exact ⟨by rw [HS.out]; rfl, HBl.out⟩ | exact ⟨rfl, HBl.out⟩
 ·have hlI : ¬ (ps.length : Int) = (qs.length : Int) := by omega
  have hlb : ((ps.length : Int) != (qs.length : Int)) = true := by simp [hlI]
  have HS : Hid (decide (ps.map Prod.fst = qs.map Prod.fst) = false) := zH (decide_eq_false (fun h => hl (by
   have := congrArg List.length h
   simpa using this)))
  go_enter Try.func9, Try.ntmps9
  go_wp2_with fail
  go_ret
  first | exact ⟨by rw [HS.out]; rfl, zL _ _⟩ | exact ⟨rfl, zL _ _⟩
end Go.Proofs.Ytnabbimompapfaa

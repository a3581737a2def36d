/- AudKH, AudKI -/
import Derived.Test.YtnabbimompapfaaMf12
import Derived.Test.YtnabbimompapfaaMf3
namespace Go.Proofs.Ytnabbimompapfaa
open Go Go.RowKit Go.MapKept Go.Maps
theorem exec_load_row {P : Program} {o : Oper} {ev : Operand → Value} {w : World} (ty : TypeId) (x : Operand) (ho : o.op = .load ty x) (g : Nat) (hx : ev x = .pointer (some ⟨g, 0, none⟩)) (t : TypeId) (cs : Array Value) (fr : Nat × Nat) (d : TypeDesc) (hg : w.heap[g]? = some (.cells cs t fr))
  (hu : P.underlying ty = some d) (hd : (match d with | .struct _ | .array _ _ => true | _ => false) = true) (hi : (P.info? ty).map (·.size) = some cs.size) : (execOp ev o).run P w = .ok (.value (.agg cs)) w := by
 unfold execOp
 simp only [ho, hx, Instr.loadAt, Instr.sureAddr, Sem.run_bind, Sem.run_pure, Result.andThen_ok, run_loadVar_row w g t ty cs fr d hg hu hd hi]
theorem step_store_row {P : Program} {ops : Array Oper} {o : Oper} {a : Act} {w : World} {K : Act → World → Prop} {Q : Exit → Act → World → Prop} {E : Prop} (hgd : o.guard = none) (ty : TypeId) (x y : Operand) (ho : o.op = .store ty x y)
  (g : Nat) (cells : Array Value) (hx : a.eval x = .pointer (some ⟨g, 0, none⟩)) (hy : a.eval y = .agg cells)
  (t : TypeId) (old : Array Value) (hg : w.heap[g]? = some (.cells old t (0, 0))) (hi : (P.info? ty).map (·.size) = some cells.size)
  (hold : old.size = cells.size) (h1 : cells.all (·.oneCell') = true)
  (h : K (a.put o.dst undef) (w.setRow g cells)) : if Region.wanted o (yielded ops a.tmps) = true then Oper.wp P o a w K Q else E := by
 have hw : Region.wanted o (yielded ops a.tmps) = true := by simp [Region.wanted, hgd]
 rw [if_pos hw]
 exact wp_store_row ty x y ho g cells hx hy t old hg hi hold h1 h
theorem results_cell_row2 {P : Program} {fn : Func} {p q : Tmp} {ty : TypeId} (h : fn.results = #[.cell p ty, .tmp q]) (tmps : Array Value) (w : World) (g : Nat) (t : TypeId) (cs : Array Value) (fr : Nat × Nat) (d : TypeDesc) (v : Value)
  (hp : tmps.getD p undef = .pointer (some ⟨g, 0, none⟩)) (hq : tmps.getD q undef = v) (hg : w.heap[g]? = some (.cells cs t fr))
  (hu : P.underlying ty = some d) (hd : (match d with | .struct _ | .array _ _ => true | _ => false) = true) (hi : (P.info? ty).map (·.size) = some cs.size) :
  (results fn tmps).run P w = .ok (.tuple #[.agg cs, v]) w := by
 have hp' : tmps[p]?.getD undef = .pointer (some ⟨g, 0, none⟩) := by simpa using hp
 have hq' : tmps[q]?.getD undef = v := by simpa using hq
 simp [results, h, hp', hq', asAddr, run_loadVar_row w g t ty cs fr d hg hu hd hi]
theorem JRep.other {W W2 : World} {B g gm gp : Nat} {us : Int} {s : PJ} {its : List It} {P : List (Int × Int)} (h : JRep W B g gm gp us s its P) {gw : Nat} {cs : Array Value} (hb : Blk W gw 35 cs) (ho : Only (fun k => k = gw) W W2) (hB : B ≤ gw) : JRep W2 B g gm gp us s its P :=
 ⟨h.blk.only ho (fun e => (hb.ne_ h.blk (by decide)) e.symm), h.items.only ho (fun e => (hb.ne_map h.items) e.symm), fun x hx => (h.ib x hx).only ho (fun e => (hb.ne_ (h.ib x hx).blk (by decide)) e.symm), fun x hx => (h.vals x hx).keep (KeepB.of_blk (U := 5) hb (by decide) hB ho), h.nd, h.perm, h.ub, h.ord, h.places.only ho (fun e => (hb.ne_map h.places) e.symm), h.pl, h.base, ⟨h.apart.1, fun x hx => (h.apart.2 x hx).keep (KeepB.of_blk (U := 5) hb (by decide) hB ho)⟩⟩
structure EvB (w W : World) (g : Nat) (o : OpV) (V : Value) (x : WantV) (V1 V2 : Value) : Prop where
 p : Blk W w.heap.size 51 #[.pointer (some ⟨g, 0, none⟩)]
 o : Blk W (w.heap.size + 1) 29 (opc o V)
 r : Blk W (w.heap.size + 1 + 1) 35 (wantc x V1 V2)
section
variable {w W W2 : World} {B g : Nat} {o : OpV} {V V1 V2 : Value} {x : WantV}
theorem EvB.below (h : EvB w W g o V x V1 V2) (hb : Below W.heap.size W W2) : EvB w W2 g o V x V1 V2 := ⟨h.p.below hb, h.o.below hb, h.r.below hb⟩
theorem EvB.kj (h : EvB w W g o V x V1 V2) (ho : Only (KJ B W) W W2) : EvB w W2 g o V x V1 V2 :=
 ⟨h.p.only ho (KJ.not_ h.p (by decide) (by decide)), h.o.only ho (KJ.not_ h.o (by decide) (by decide)), h.r.only ho (KJ.not_ h.r (by decide) (by decide))⟩
theorem EvB.row (h : EvB w W g o V x V1 V2) (x' : WantV) (V1' V2' : Value) : EvB w (W.setRow (w.heap.size + 1 + 1) (wantc x' V1' V2')) g o V x' V1' V2' ∧ Only (fun k => k = w.heap.size + 1 + 1) W (W.setRow (w.heap.size + 1 + 1) (wantc x' V1' V2')) := by
 have ho := (Only.refl (fun k => k = w.heap.size + 1 + 1) W).setRow (.inl rfl) (wantc x' V1' V2')
 exact ⟨⟨h.p.only ho (by omega), h.o.only ho (by omega), h.r.row _⟩, ho⟩
theorem KJ.result {k : Nat} (hk : w.heap.size ≤ k) (h0 : Only (KJ B w) w W) (ho : Only (fun i => i = k) W W2) : Only (KJ B w) w W2 := h0.trans ho (fun i hi e => by omega)
end
structure DueS (W : World) (Bp g : Nat) (t : Int) (x : It) : Prop where
 p : Blk W Bp 51 #[.pointer (some ⟨g, 0, none⟩)]
 now : W.cell? ⟨g, 5, none⟩ = some (.int .u64 t)
 it : ItAt W x.b x.e x.v x.u (costE x.e)
set_option maxRecDepth 100000 in
set_option maxHeartbeats 2000000 in
theorem due1_any (w : World) (Bp B g gm gp : Nat) (us : Int) (s : PJ) (its : List It) (P : List (Int × Int)) (hp : Blk w Bp 51 #[.pointer (some ⟨g, 0, none⟩)]) (h : JRep w B g gm gp us s its P) :
  PredIs w 40 #[.pointer (some ⟨Bp, 0, none⟩)] its (fun x => dueP x.e.dl s.now) := by
 refine ⟨enters_of Try.func40 (by kernel_rfl) rfl, fun x hx W hW => ?_⟩
 have hp0 : W.cell? ⟨Bp, 0, none⟩ = some (.pointer (some ⟨g, 0, none⟩)) := (hp.below hW).cell 0 _ rfl
 obtain ⟨-, -, -, -, -, d5, -⟩ := (h.below hW).cells
 obtain ⟨-, -, x2, -, -, -⟩ := ((h.below hW).ib x hx).cells
 have HD := zH (fun W => tickDue_any x.e.dl s.now W)
 clear hp h hW hx
 show Calls Try.prog _ #[ptrI x.b, .pointer (some ⟨Bp, 0, none⟩)] W _
 unfold ptrI
 go_enter Try.func40, Try.ntmps40
 go_wp2_with fail
 go_quiet ((go_at_call 41; exact Calls.quiet_of_same ((HD.out _).mono fun e w' h => ⟨h.1, h.2.symm⟩)))
 go_wp2_with fail
 go_ret
 exact ⟨rfl, (Gr.refl _).drewN _⟩
theorem ownS_inv {n : Nat} {s : PJ} (h : PInv n s) (o : OpV) : PInv n (ownS s o) := by
 unfold ownS
 split
 ·exact ⟨by simp, by simp, by simp, by simp, by simp, h.pls, h.cnt, by simp, h.now⟩
 ·split
  ·split
   ·exact h.gone _
   ·exact h
  ·exact h
theorem ownS_effOk {s : PJ} {o : OpV} {e : Int} (h : EffOk s o e) : EffOk (ownS s o) o e := by
 by_cases h67 : o.kind = 6 ∨ o.kind = 7
 ·exact ⟨h.h0, fun h => by omega, fun h => by omega, fun h => by omega⟩
 ·have : ownS s o = s := by unfold ownS; rw [if_neg (by omega), if_neg (by omega)]
  rw [this]; exact h
def EvtsRet (B g gm gp : Nat) (us : Int) (r : Except Int (PJ × WantV)) (w : World) (e : Ending) (w' : World) : Prop :=
 Only (KJ B w) w w' ∧ (∀ x, r = .error x → ∃ (wv : WantV) (A1 A2 : Option Addr) (n1 n2 c1 c2 : Nat), e = .returned (.tuple #[.agg (wantc wv (.slice A1 n1 c1) (.slice A2 n2 c2)), .int .i64 x])) ∧
 ∀ s2 wv, r = .ok (s2, wv) → ∃ (A1 A2 : Option Addr) (c1 c2 : Nat), e = .returned (.tuple #[.agg (wantc wv (.slice A1 wv.val.length c1) (.slice A2 wv.ent.val.length c2)), .int .i64 0]) ∧ Bts w' B 5 (.slice A1 wv.val.length c1) wv.val ∧ Bts w' B 5 (.slice A2 wv.ent.val.length c2) wv.ent.val ∧
  ∃ (us' : Int) (its' : List It) (P' : List (Int × Int)), (us ≤ us' ∧ us' ≤ us + 1) ∧ JRep w' B g gm gp us' s2 its' P'
theorem EvtsRet.err {B g gm gp : Nat} {us : Int} {r : Except Int (PJ × WantV)} {w w' : World} {x : Int} {wv : WantV} {A1 A2 : Option Addr} {n1 n2 c1 c2 : Nat} (h : r = .error x) (ho : Only (KJ B w) w w') : EvtsRet B g gm gp us r w (.returned (.tuple #[.agg (wantc wv (.slice A1 n1 c1) (.slice A2 n2 c2)), .int .i64 x])) w' :=
 ⟨ho, fun y hy => by rw [h] at hy; injection hy with hy; rw [← hy]; exact ⟨wv, A1, A2, n1, n2, c1, c2, rfl⟩, fun s2 wv2 h2 => by rw [h] at h2; cases h2⟩
theorem strip_mem : ∀ {xs l r : List EvV}, stripP xs l = some r → ∀ v ∈ r, v ∈ l
 |[], l, r, h, v, hv => by
  have h' : some l = some r := h
  injection h' with h'
  rw [h']; exact hv
 |_ :: _, [], r, h, v, hv => by cases h
 |x :: xs, y :: ys, r, h, v, hv => by
  have h' : (if y = x then stripP xs ys else none) = some r := h
  split at h'
  ·exact List.mem_cons_of_mem _ (strip_mem h' v hv)
  ·cases h'
set_option maxRecDepth 100000 in
set_option maxHeartbeats 8000000 in
theorem events_any (N B Bv g gm gp : Nat) (us : Int) (s : PJ) (its : List It) (P : List (Int × Int)) (o : OpV) (V : Value) (e0 : Int) (lv : Value) (evs : List (EvV × Value)) (w : World) (h : JRep w B g gm gp us s its P) (hv : Bts w Bv 5 V o.val) (hk : o.key.size ≤ maxLen) (hi : PInv N s) (hn : N ≤ 80000) (hB : Bv ≤ B ∧ B ≤ w.heap.size)
  (hl : EvsAt w Bv lv evs) (hks : ∀ p ∈ evs, p.1.key.size ≤ maxLen) (hus : 0 ≤ us ∧ us ≤ 1000000000000) (htt : 0 ≤ o.ttl) (hc : -9223372036854775808 ≤ o.cursor ∧ o.cursor ≤ 9223372036854775807) (hkd : 1 ≤ o.kind ∧ o.kind ≤ 14)
  (hs : o.kind = 1 ∨ o.kind = 2 → keyOK o.key = true ∧ o.val.length ≤ 65536) (he : EffOk (expireP s s.now) o e0) :
  Calls Try.prog 27 #[.pointer (some ⟨g, 0, none⟩), opv o V, .int .i64 e0, lv] w (EvtsRet B g gm gp us (eventsP s o e0 s.now (evs.map Prod.fst)) w) := by
 obtain ⟨A, c, rfl⟩ := hv.form
 have hlen : its.length ≤ 1000000 := by have := h.lenI; have := hi.lenL; omega
 have HI := zH hi
 have HLe := zH hlen
 have HK := zH hk
 have HN := zH hn
 have HBB := zH hB
 have HKs := zH hks
 have HU := zH hus
 have HTt := zH htt
 have HC := zH hc
 have HKd := zH hkd
 have HSk := zH hs
 have HEf := zH he
 obtain ⟨W0, hW0⟩ : ∃ W0, ((w.alloc (.cells #[.pointer (some ⟨g, 0, none⟩)] 51)).alloc (.cells (opc o (.slice A o.val.length c)) 29)).alloc (.cells (wantc want0 (.slice none 0 0) (.slice none 0 0)) 35) = W0 := ⟨_, rfl⟩
 have hb0 : Below w.heap.size w W0 := hW0 ▸ (((zL _ _).alloc (zN _) _).alloc (by simp) _).alloc (by simp; omega) _
 have HEB : Hid (EvB w W0 g o (.slice A o.val.length c) want0 (.slice none 0 0) (.slice none 0 0)) := zH (hW0 ▸ ⟨((Blk.new _ _ _).alloc _).alloc _, (Blk.new2 _ _ _ _).alloc _, Blk.new3 _ _ _ _ _⟩)
 have HJ := zH (h.below hb0)
 have HL := zH (hl.below hb0)
 have HV := zH (hv.below hb0)
 have HB0 := zH hb0
 obtain ⟨LA, lc, rfl⟩ := hl.slice
 unfold opv
 unfold opc wantc want0 ent0 at hW0
 unfold opc
 dsimp only at hW0
 clear h hv hk hi hn hB hl hks hus htt hc hkd hs he hlen hb0
 go_enter Try.func27, Try.ntmps27
 go_upto_region 1 with fail
 try rw [hW0]
 clear hW0
 have p0 : W0.cell? ⟨w.heap.size, 0, none⟩ = some (.pointer (some ⟨g, 0, none⟩)) := HEB.out.p.cell 0 _ rfl
 have HSo := zH (sorted_any B g gm gp us s its P W0 HJ.out HLe.out _ _ _ (due1_any W0 w.heap.size B g gm gp us s its P HEB.out.p HJ.out) _ _ cmpIs_deadline)
 go_wp2_with fail
 refine HSo.out.mono ?_
 rintro e w1 ⟨A1, n1, c1, ys, rfl, hrow1, hperm1, hord1, hb1⟩
 have he1 := sortD_eq (t := s.now) HI.out.asc HJ.out.perm (fun _ => rfl) hperm1 (hord1.imp (fun h => by omega))
 have HY : Hid (ys.map It.e = dueL s.L s.now) := zH he1
 have hmem1 : ∀ x ∈ ys, x ∈ its := fun x hx => (List.mem_filter.1 (hperm1.mem_iff.1 hx)).1
 have hnd1 : (ys.map fun x => x.e.key).Nodup := (hperm1.map _).nodup_iff.2 (HJ.out.keysN.sublist (List.filter_sublist.map _))
 have hdue : (ys.map fun x => eventP 1 x.e s.now) = dueE s s.now := by
  rw [dueE_eq, ← he1, List.map_map]
  rfl
 have HJ1 := zH (HJ.out.below hb1)
 have HEB1 := zH (HEB.out.below hb1)
 have HL1 := zH (HL.out.below hb1)
 have HV1 := zH (HV.out.below hb1)
 have HO1 : Hid (Only (KJ B w) w w1) := zH (KJ.of_below (HB0.out.trans (hb1.mono HB0.out.size)))
 have HLv := zH (leave_any B Bv W0.heap.size g gm gp us s its P 1 ys evs (.slice LA evs.length lc) A1 n1 c1 w1 HJ1.out (LOk.of HI.out (Nat.le_trans HN.out (by omega))) hmem1 hnd1 hrow1 HL1.out HBB.out.1)
 unfold LeaveRet at HLv
 rw [hdue] at HLv
 have p1 : w1.cell? ⟨w.heap.size, 0, none⟩ = some (.pointer (some ⟨g, 0, none⟩)) := HEB1.out.p.cell 0 _ rfl
 clear hrow1 hperm1 hord1 hb1 he1 hmem1 hnd1 hdue p0 HSo HJ HEB HL HV
 go_wp2_with fail
 refine HLv.out.mono ?_
 rintro e w2 ⟨ho2, hcase⟩
 have HO2 := zH (KJ.trans HO1.out ho2)
 have HEB2 := zH (HEB1.out.kj ho2)
 have HV2 := zH (HV1.out.keep (KJ.keepB ho2 HBB.out.1))
 have p2 : w2.cell? ⟨w.heap.size, 0, none⟩ = some (.pointer (some ⟨g, 0, none⟩)) := HEB2.out.p.cell 0 _ rfl
 rcases hcase with ⟨hnone, rfl⟩ | ⟨lv1, rest, hsome, rfl, hev2, hj2⟩
 ·have HS : Hid (eventsP s o e0 s.now (evs.map Prod.fst) = .error 3) := zH (by unfold eventsP; rw [hnone])
  clear hnone p1 HLv ho2
  go_wp2_with (first | (refine wpList_load_row rfl 35 _ rfl (w.heap.size + 1 + 1) rfl 35 _ (0, 0) _ (HEB2).out.r Try.underlying35 rfl (by kernel_rfl) ?_) | (refine wpList_store_row rfl 35 _ _ rfl (w.heap.size + 1 + 1) _ rfl rfl 35 _ (HEB2).out.r (by kernel_rfl) rfl (by simp [wantc, Value.oneCell']) ?_))
  obtain ⟨hrow, horow⟩ := (HEB2).out.row want0 (.slice none 0 0) (.slice none 0 0)
  have HRow := zH hrow
  have HORow := zH horow
  clear hrow horow
  generalize World.setRow _ _ _ = W9 at HRow HORow ⊢
  try simp only [Exit.inBlock, Exit.then]
  refine bodyPost_ret (v := .tuple #[.agg (wantc want0 (.slice none 0 0) (.slice none 0 0)), .int .i64 3]) (results_cell_row2 rfl _ _ (w.heap.size + 1 + 1) 35 _ (0, 0) _ _ rfl rfl HRow.out.r Try.underlying35 rfl (by kernel_rfl)) rfl ?_
  exact EvtsRet.err HS.out (KJ.result (by omega) HO2.out HORow.out)
 ·have HE1 : Hid (eventsP s o e0 s.now (evs.map Prod.fst) = if noExp (rest.map Prod.fst) = false then .error 3 else match stripP (ownE (expireP s s.now) o) (rest.map Prod.fst) with
   |none => .error 2
   |some l2 => match evictP o l2 (effP (expireP s s.now) o e0) with
    |.error x => .error x
    |.ok s2 => .ok (s2, readsP (expireP s s.now) o e0)) := zH (by unfold eventsP; rw [hsome]; try rfl)
  rw [leftS_due HI.out HY.out] at hj2
  obtain ⟨s1, hs1⟩ : ∃ s1, expireP s s.now = s1 := ⟨_, rfl⟩
  have HI1 : Hid (PInv N s1) := zH (hs1 ▸ HI.out.expire s.now HI.out.now)
  have HN1 : Hid (s1.now = s.now) := zH (hs1 ▸ rfl)
  rw [hs1] at HE1 HEf hj2
  obtain ⟨A2, n2, c2, rfl⟩ : ∃ A2 n2 c2, lv1 = .slice A2 n2 c2 := by obtain ⟨A2, c2, e⟩ := hev2.slice; exact ⟨A2, _, c2, e⟩
  have HKr : Hid (∀ p ∈ rest, p.1.key.size ≤ maxLen) := zH (fun p hp => by
   have h1 := strip_mem hsome p.1 (List.mem_map_of_mem hp)
   obtain ⟨q, hq, hqe⟩ := List.mem_map.1 h1
   rw [← hqe]; exact HKs.out q hq)
  generalize leftI 1 its ys = its1 at hj2
  have HJ2 := zH hj2
  have HL2 := zH hev2
  have HEx := zH (expired_any Bv (.slice A2 n2 c2) rest w2 hev2)
  clear hsome hev2 hj2 hs1 p1 HLv ho2
  obtain ⟨ne, hne⟩ : ∃ ne, noExp (rest.map Prod.fst) = ne := ⟨_, rfl⟩
  rw [hne] at HEx HE1
  clear hne
  cases ne with
  |false =>
   have HS : Hid (eventsP s o e0 s.now (evs.map Prod.fst) = .error 3) := zH (by rw [HE1.out, if_pos rfl])
   go_wp2_with fail
   refine HEx.out.mono ?_
   rintro e w3 ⟨rfl, hb3⟩
   have HEB3 := zH (HEB2.out.below hb3)
   have HO3 := zH (KJ.trans HO2.out (KJ.of_below hb3))
   clear hb3 p2 HEx HE1
   go_wp2_with (first | (refine wpList_load_row rfl 35 _ rfl (w.heap.size + 1 + 1) rfl 35 _ (0, 0) _ (HEB3).out.r Try.underlying35 rfl (by kernel_rfl) ?_) | (refine wpList_store_row rfl 35 _ _ rfl (w.heap.size + 1 + 1) _ rfl rfl 35 _ (HEB3).out.r (by kernel_rfl) rfl (by simp [wantc, Value.oneCell']) ?_))
   obtain ⟨hrow, horow⟩ := (HEB3).out.row want0 (.slice none 0 0) (.slice none 0 0)
   have HRow := zH hrow
   have HORow := zH horow
   clear hrow horow
   generalize World.setRow _ _ _ = W9 at HRow HORow ⊢
   try simp only [Exit.inBlock, Exit.then]
   refine bodyPost_ret (v := .tuple #[.agg (wantc want0 (.slice none 0 0) (.slice none 0 0)), .int .i64 3]) (results_cell_row2 rfl _ _ (w.heap.size + 1 + 1) 35 _ (0, 0) _ _ rfl rfl HRow.out.r Try.underlying35 rfl (by kernel_rfl)) rfl ?_
   exact EvtsRet.err HS.out (KJ.result (by omega) HO3.out HORow.out)
  |true =>
   have HE2 : Hid (eventsP s o e0 s.now (evs.map Prod.fst) = match stripP (ownE s1 o) (rest.map Prod.fst) with
    |none => .error 2
    |some l2 => match evictP o l2 (effP s1 o e0) with
     |.error x => .error x
     |.ok s2 => .ok (s2, readsP s1 o e0)) := zH (by rw [HE1.out, if_neg (by decide)])
   clear HE1
   go_wp2_with fail
   refine HEx.out.mono ?_
   rintro e w3 ⟨rfl, hb3⟩
   have HEB3 := zH (HEB2.out.below hb3)
   have HO3 := zH (KJ.trans HO2.out (KJ.of_below hb3))
   have HJ3 := zH (HJ2.out.below hb3)
   have HL3 := zH (HL2.out.below hb3)
   have HV3 := zH (HV2.out.below hb3)
   clear hb3 p2 HEx HJ2 HL2 HV2 HEB2 HO2
   have p3 : w3.cell? ⟨w.heap.size, 0, none⟩ = some (.pointer (some ⟨g, 0, none⟩)) := HEB3.out.p.cell 0 _ rfl
   obtain ⟨z0, z1, z2, z3, z4, z5, z6, z7, z8⟩ := op9 HEB3.out.o
   have HRd := zH (reads_any N B Bv g gm gp us s1 its1 P o (.slice A o.val.length c) e0 w3 HJ3.out HV3.out HK.out HI1.out (Nat.le_trans HN.out (by omega)) HC.out HEf.out.h12)
   unfold opv opc at HRd
   go_wp2_with fail
   refine HRd.out.mono ?_
   rintro e w4 ⟨Vw, Ve, rfl, hvw, hve, hb4⟩
   obtain ⟨Aw, cw, rfl⟩ := hvw.form
   obtain ⟨Ae, ce, rfl⟩ := hve.form
   have HEB4 := zH (HEB3.out.below hb4)
   have HO4 := zH (KJ.trans HO3.out (KJ.of_below hb4))
   have HJ4 := zH (HJ3.out.below hb4)
   have HL4 := zH (HL3.out.below hb4)
   have HV4 := zH (HV3.out.below hb4)
   have HVw4 := zH hvw
   have HVe4 := zH hve
   obtain ⟨wv, hwv⟩ : ∃ wv, readsP s1 o e0 = wv := ⟨_, rfl⟩
   rw [hwv] at HE2 HVw4 HVe4 ⊢
   clear hb4 hvw hve hwv p3 z0 z1 z2 z3 z4 z5 z6 z7 z8 HRd HJ3 HL3 HV3 HEB3 HO3
   go_upto_region 6 with (refine wpList_store_row rfl 35 _ _ rfl (w.heap.size + 1 + 1) _ rfl rfl 35 _ HEB4.out.r (by kernel_rfl) rfl (by simp [wantc, Value.oneCell']) ?_)
   obtain ⟨hrow5, hor5⟩ := HEB4.out.row wv (.slice Aw wv.val.length cw) (.slice Ae wv.ent.val.length ce)
   have HEB5 := zH hrow5
   have HO5 : Hid (Only (KJ B w) w _) := zH (KJ.result (by omega) HO4.out hor5)
   have HBr : Hid (B ≤ w.heap.size + 1 + 1) := zH (by have := HBB.out.2; omega)
   have HJ5 := zH (HJ4.out.other HEB4.out.r hor5 HBr.out)
   have hkb5 := KeepB.of_blk (B := B) (U := 5) HEB4.out.r (by decide) HBr.out hor5
   have hkv5 := KeepB.of_blk (B := Bv) (U := 5) HEB4.out.r (by decide) (Nat.le_trans HBB.out.1 HBr.out) hor5
   have HL5 := zH (HL4.out.keep hkv5)
   have HV5 := zH (HV4.out.keep hkv5)
   have HVw5 := zH (HVw4.out.keep hkb5)
   have HVe5 := zH (HVe4.out.keep hkb5)
   clear hrow5 hor5 hkb5 hkv5 HEB4 HO4 HJ4 HL4 HV4 HVw4 HVe4
   generalize World.setRow _ _ _ = w5 at HEB5 HO5 HJ5 HL5 HV5 HVw5 HVe5 ⊢
   have p5 : w5.cell? ⟨w.heap.size, 0, none⟩ = some (.pointer (some ⟨g, 0, none⟩)) := HEB5.out.p.cell 0 _ rfl
   obtain ⟨z0, z1, z2, z3, z4, z5, z6, z7, z8⟩ := op9 HEB5.out.o
   have HOw := zH (own_any N B Bv g gm gp us s1 its1 P o (.slice A o.val.length c) w5 HJ5.out HV5.out HK.out HI1.out (Nat.le_trans HN.out (by omega)))
   unfold opv opc at HOw
   go_wp2_with fail
   refine HOw.out.mono ?_
   rintro e w6 ⟨k, A6, n6, c6, xs6, rfl, hrow6, hmem6, hnd6, hown6, hleft6, hb6⟩
   have HEB6 := zH (HEB5.out.below hb6)
   have HO6 := zH (KJ.trans HO5.out (KJ.of_below hb6))
   have HJ6 := zH (HJ5.out.below hb6)
   have HL6 := zH (HL5.out.below hb6)
   have HV6 := zH (HV5.out.below hb6)
   have HVw6 := zH (HVw5.out.below hb6)
   have HVe6 := zH (HVe5.out.below hb6)
   have HLf := zH hleft6
   have HLv6 := zH (leave_any B Bv w5.heap.size g gm gp us s1 its1 P k xs6 rest (.slice A2 n2 c2) A6 n6 c6 w6 HJ6.out (LOk.of HI1.out (Nat.le_trans HN.out (by omega))) hmem6 hnd6 hrow6 HL6.out HBB.out.1)
   unfold LeaveRet at HLv6
   rw [hown6] at HLv6
   clear hrow6 hmem6 hnd6 hown6 hleft6 hb6 p5 z0 z1 z2 z3 z4 z5 z6 z7 z8 HOw HJ5 HL5 HV5 HVw5 HVe5 HEB5 HO5
   have p6 : w6.cell? ⟨w.heap.size, 0, none⟩ = some (.pointer (some ⟨g, 0, none⟩)) := HEB6.out.p.cell 0 _ rfl
   go_wp2_with fail
   refine HLv6.out.mono ?_
   rintro e w7 ⟨ho7, hcase7⟩
   have HO7 := zH (KJ.trans HO6.out ho7)
   have HEB7 := zH (HEB6.out.kj ho7)
   have HV7 := zH (HV6.out.keep (KJ.keepB ho7 HBB.out.1))
   have HVw7 := zH (HVw6.out.keep (KJ.keepB ho7 (zN _)))
   have HVe7 := zH (HVe6.out.keep (KJ.keepB ho7 (zN _)))
   clear ho7 p6 HLv6 HJ6 HL6 HV6 HVw6 HVe6 HEB6 HO6
   rcases hcase7 with ⟨hnone, rfl⟩ | ⟨lv7, rest7, hsome, rfl, hev7, hj7⟩
   ·have HS : Hid (eventsP s o e0 s.now (evs.map Prod.fst) = .error 2) := zH (by rw [HE2.out, hnone])
    clear hnone
    go_wp2_with (first | (refine wpList_load_row rfl 35 _ rfl (w.heap.size + 1 + 1) rfl 35 _ (0, 0) _ (HEB7).out.r Try.underlying35 rfl (by kernel_rfl) ?_) | (refine wpList_store_row rfl 35 _ _ rfl (w.heap.size + 1 + 1) _ rfl rfl 35 _ (HEB7).out.r (by kernel_rfl) rfl (by simp [wantc, Value.oneCell']) ?_))
    obtain ⟨hrow, horow⟩ := (HEB7).out.row wv (.slice Aw wv.val.length cw) (.slice Ae wv.ent.val.length ce)
    have HRow := zH hrow
    have HORow := zH horow
    clear hrow horow
    generalize World.setRow _ _ _ = W9 at HRow HORow ⊢
    try simp only [Exit.inBlock, Exit.then]
    refine bodyPost_ret (v := .tuple #[.agg (wantc wv (.slice Aw wv.val.length cw) (.slice Ae wv.ent.val.length ce)), .int .i64 2]) (results_cell_row2 rfl _ _ (w.heap.size + 1 + 1) 35 _ (0, 0) _ _ rfl rfl HRow.out.r Try.underlying35 rfl (by kernel_rfl)) rfl ?_
    exact EvtsRet.err HS.out (KJ.result (by omega) HO7.out HORow.out)
   ·have HE3 : Hid (eventsP s o e0 s.now (evs.map Prod.fst) = match evictP o (rest7.map Prod.fst) (effP s1 o e0) with
     |.error x => .error x
     |.ok s2 => .ok (s2, wv)) := zH (by rw [HE2.out, hsome]; try rfl)
    rw [HLf.out] at hj7
    obtain ⟨A7, n7, c7, rfl⟩ : ∃ A7 n7 c7, lv7 = .slice A7 n7 c7 := by obtain ⟨A7, c7, e⟩ := hev7.slice; exact ⟨A7, _, c7, e⟩
    have HKr7 : Hid (∀ p ∈ rest7, p.1.key.size ≤ maxLen) := zH (fun p hp => by
     have h1 := strip_mem hsome p.1 (List.mem_map_of_mem hp)
     obtain ⟨q, hq, hqe⟩ := List.mem_map.1 h1
     rw [← hqe]; exact HKr.out q hq)
    generalize leftI k its1 xs6 = its7 at hj7
    have HJ7 := zH hj7
    have HL7 := zH hev7
    have hsz7 : w.heap.size ≤ w7.heap.size := HO7.out.size
    have HEf7 := zH (effect_any N B Bv g gm gp us (ownS s1 o) its7 P o (.slice A o.val.length c) e0 w7 hj7 HV7.out HK.out (ownS_inv HI1.out o) (Nat.le_trans HN.out (by omega)) ⟨HBB.out.1, Nat.le_trans HBB.out.2 hsz7⟩ HSk.out HU.out HTt.out HC.out HKd.out (ownS_effOk HEf.out))
    rw [effC_own] at HEf7
    have HI8 : Hid (PInv (N + 1) (effP s1 o e0)) := zH (HI1.out.effP o e0 HTt.out HSk.out)
    clear hsome hj7 hev7 hsz7 HE2
    have p7 : w7.cell? ⟨w.heap.size, 0, none⟩ = some (.pointer (some ⟨g, 0, none⟩)) := HEB7.out.p.cell 0 _ rfl
    obtain ⟨z0, z1, z2, z3, z4, z5, z6, z7, z8⟩ := op9 HEB7.out.o
    unfold opv opc at HEf7
    go_wp2_with fail
    refine HEf7.out.mono ?_
    rintro e w8 ⟨rfl, us8, its8, P8, hus8, hj8, ho8⟩
    have HO8 := zH (KJ.trans HO7.out ho8)
    have HEB8 := zH (HEB7.out.kj ho8)
    have HJ8 := zH hj8
    have HL8 := zH (HL7.out.keep (KJ.keepB ho8 HBB.out.1))
    have HV8 := zH (HV7.out.keep (KJ.keepB ho8 HBB.out.1))
    have HVw8 := zH (HVw7.out.keep (KJ.keepB ho8 (zN _)))
    have HVe8 := zH (HVe7.out.keep (KJ.keepB ho8 (zN _)))
    have HU8 := zH hus8
    clear hj8 ho8 hus8 p7 z0 z1 z2 z3 z4 z5 z6 z7 z8 HEf7 HJ7 HL7 HV7 HVw7 HVe7 HEB7 HO7
    go_upto_region 11 with fail
    refine wp_region_noPanic ?_
    refine wp_region_held_drew (S := fun W => EvB w W g o (.slice A o.val.length c) wv (.slice Aw wv.val.length cw) (.slice Ae wv.ent.val.length ce)) (by kernel_rfl) (HEB8.out.below (zL _ _).drew) (fun hHeld => ?_)
    have hbd : Below w8.heap.size w8 w8.drew := (zL _ _).drew
    have HO9 := zH (KJ.trans HO8.out (KJ.of_below hbd))
    have HEB9 := zH (HEB8.out.below hbd)
    have HJ9 := zH (HJ8.out.below hbd)
    have HL9 := zH (HL8.out.below hbd)
    have HV9 := zH (HV8.out.below hbd)
    have HVw9 := zH (HVw8.out.below hbd)
    have HVe9 := zH (HVe8.out.below hbd)
    clear hbd HJ8 HL8 HV8 HVw8 HVe8 HEB8 HO8
    generalize w8.drew = w9 at HO9 HEB9 HJ9 HL9 HV9 HVw9 HVe9 hHeld ⊢
    refine wpAnyH_take (i := 0) (oi := ⟨_, _, _, _, _, _⟩) (v := .agg (wantc wv (.slice Aw wv.val.length cw) (.slice Ae wv.ent.val.length ce))) rfl (by kernel_rfl) (by kernel_rfl) (by kernel_rfl) (fun _ _ _ h => h) (Or.inl ⟨by rfl, fun W hSw => exec_load_row 35 _ rfl (w.heap.size + 1 + 1) rfl 35 _ (0, 0) _ hSw.r Try.underlying35 rfl (by kernel_rfl)⟩) (by assumption) ?_
    try simp only [Act.put, zA, zB, zC]
    refine tk 1 (v := ?_) ?_ ?_
    rotate_left 1
    ·intro W hSw
     have p9 : W.cell? ⟨w.heap.size, 0, none⟩ = some (.pointer (some ⟨g, 0, none⟩)) := hSw.p.cell 0 _ rfl
     clear hSw
     go_simp
     try with_reducible rfl
    try dsimp only [zS, zB, zC]
    refine tk 2 (v := ?_) ?_ ?_
    rotate_left 1
    ·intro W hSw
     obtain ⟨z0, z1, z2, z3, z4, z5, z6, z7, z8⟩ := op9 hSw.o
     clear hSw
     go_simp
     try with_reducible rfl
    try dsimp only [zS, zB, zC]
    refine tk 3 (v := ?_) ?_ ?_
    rotate_left 1
    ·intro W hSw
     skip
     clear hSw
     go_simp
     try with_reducible rfl
    try dsimp only [zS, zB, zC]
    have HEv := zH (evict_any (N + 1) B Bv g gm gp us8 (effP s1 o e0) its8 P8 o (.slice A o.val.length c) (.slice A7 n7 c7) rest7 w9 HJ9.out HV9.out HI8.out (by have := HN.out; omega) HL9.out HBB.out.1 HKr7.out)
    unfold opv opc at HEv
    refine wpAnyH_ready (rs := [4]) (by kernel_rfl) (by simp) ?_
    refine AllReadyH.cons (o := ⟨_, _, _, _, _, _⟩) rfl (fun F hF => ?_) AllReadyH.nil
    go_simp
    refine HEv.out.mono ?_
    rintro e w10 ⟨ho10, herr, hok⟩
    have HO10 := zH (KJ.trans HO9.out ho10)
    have HEB10 := zH (HEB9.out.kj ho10)
    have HVw10 := zH (HVw9.out.keep (KJ.keepB ho10 (zN _)))
    have HVe10 := zH (HVe9.out.keep (KJ.keepB ho10 (zN _)))
    clear ho10 hHeld HJ9 HL9 HV9 HVw9 HVe9 HEB9 HO9 HEv
    obtain ⟨er, her⟩ : ∃ er, evictP o (rest7.map Prod.fst) (effP s1 o e0) = er := ⟨_, rfl⟩
    rw [her] at HE3 herr hok
    clear her
    cases er with
    |error x =>
     have he10 := herr x rfl
     subst he10
     have HS : Hid (eventsP s o e0 s.now (evs.map Prod.fst) = .error x) := zH HE3.out
     clear herr hok
     go_wp2_with fail
     refine hF.out _ _ HEB10.out (fun hHeld => ?_)
     clear hF F
     try simp only [Act.put, zA, zB, zC]
     obtain ⟨hrow, horow⟩ := HEB10.out.row wv (.slice Aw wv.val.length cw) (.slice Ae wv.ent.val.length ce)
     have HRow := zH hrow
     have HORow := zH horow
     clear hrow horow
     refine wpAnyH_ready (rs := [5]) (by kernel_rfl) (by simp) ?_
     refine AllReadyH.cons (o := ⟨_, _, _, _, _, _⟩) rfl (fun F hF => ?_) AllReadyH.nil
     refine step_store_row rfl 35 _ _ rfl (w.heap.size + 1 + 1) _ rfl rfl 35 _ HEB10.out.r (by kernel_rfl) rfl (by simp [wantc, Value.oneCell']) ?_
     refine hF.out _ _ HRow.out (fun hHeld => ?_)
     clear hF F
     try simp only [Act.put, zA, zB, zC]
     refine tk 6 (v := ?_) ?_ ?_
     rotate_left 1
     ·intro W hSw
      skip
      clear hSw
      go_simp
      try with_reducible rfl
     try dsimp only [zS, zB, zC]
     refine wpAnyH_done (by kernel_rfl) ?_ _
     refine NoPanic.normal ?_
     clear hHeld
     generalize World.setRow _ _ _ = W9 at HRow HORow ⊢
     go_wp2_with fail
     try simp only [Exit.inBlock, Exit.then]
     refine bodyPost_ret (v := .tuple #[.agg (wantc wv (.slice Aw wv.val.length cw) (.slice Ae wv.ent.val.length ce)), _]) (results_cell_row2 rfl _ _ (w.heap.size + 1 + 1) 35 _ (0, 0) _ _ rfl rfl HRow.out.r Try.underlying35 rfl (by kernel_rfl)) rfl ?_
     exact EvtsRet.err HS.out (KJ.result (by omega) HO10.out HORow.out)
    |ok s2 =>
     obtain ⟨he10, its10, P10, hj10⟩ := hok s2 rfl
     subst he10
     have HJ10 := zH hj10
     have HS : Hid (eventsP s o e0 s.now (evs.map Prod.fst) = .ok (s2, wv)) := zH HE3.out
     clear herr hok hj10
     go_wp2_with fail
     refine hF.out _ _ HEB10.out (fun hHeld => ?_)
     clear hF F
     try simp only [Act.put, zA, zB, zC]
     obtain ⟨hrow, horow⟩ := HEB10.out.row wv (.slice Aw wv.val.length cw) (.slice Ae wv.ent.val.length ce)
     have HRow := zH hrow
     have HORow := zH horow
     clear hrow horow
     refine wpAnyH_ready (rs := [5]) (by kernel_rfl) (by simp) ?_
     refine AllReadyH.cons (o := ⟨_, _, _, _, _, _⟩) rfl (fun F hF => ?_) AllReadyH.nil
     refine step_store_row rfl 35 _ _ rfl (w.heap.size + 1 + 1) _ rfl rfl 35 _ HEB10.out.r (by kernel_rfl) rfl (by simp [wantc, Value.oneCell']) ?_
     refine hF.out _ _ HRow.out (fun hHeld => ?_)
     clear hF F
     try simp only [Act.put, zA, zB, zC]
     refine tk 6 (v := ?_) ?_ ?_
     rotate_left 1
     ·intro W hSw
      skip
      clear hSw
      go_simp
      try with_reducible rfl
     try dsimp only [zS, zB, zC]
     refine wpAnyH_done (by kernel_rfl) ?_ _
     refine NoPanic.normal ?_
     clear hHeld
     generalize World.setRow _ _ _ = W9 at HRow HORow ⊢
     go_wp2_with fail
     try simp only [Exit.inBlock, Exit.then]
     refine bodyPost_ret (v := .tuple #[.agg (wantc wv (.slice Aw wv.val.length cw) (.slice Ae wv.ent.val.length ce)), _]) (results_cell_row2 rfl _ _ (w.heap.size + 1 + 1) 35 _ (0, 0) _ _ rfl rfl HRow.out.r Try.underlying35 rfl (by kernel_rfl)) rfl ?_
     have hkb := KeepB.of_blk (B := B) (U := 5) HEB10.out.r (by decide) (by have := HBB.out.2; omega) HORow.out
     refine ⟨KJ.result (by omega) HO10.out HORow.out, fun x hx => (by rw [HS.out] at hx; cases hx), fun s3 wv3 h3 => ?_⟩
     rw [HS.out] at h3
     injection h3 with h3
     injection h3 with h3 h4
     subst h3 h4
     exact ⟨Aw, Ae, cw, ce, rfl, HVw10.out.keep hkb, HVe10.out.keep hkb, us8, its10, P10, HU8.out, HJ10.out.other HEB10.out.r HORow.out (by have := HBB.out.2; omega)⟩
end Go.Proofs.Ytnabbimompapfaa
namespace Go.Proofs.Ytnabbimompapfaa
open Go Go.RowKit Go.MapKept Go.Maps
theorem JRep.setNow {w : World} {B g gm gp : Nat} {us : Int} {s : PJ} {its : List It} {P : List (Int × Int)} (h : JRep w B g gm gp us s its P) (t : Int) :
  JRep (w.setCell ⟨g, 5, none⟩ (.int .u64 t)) B g gm gp us { s with now := t } its P ∧ Only (KJ B w) w (w.setCell ⟨g, 5, none⟩ (.int .u64 t)) := by
 have ho := Only.set1 w g 5 (.int .u64 t)
 have hoo := KJ.one h.kj_g ho
 exact ⟨⟨h.blk.set_ 5 (.int .u64 t), h.items.only ho (fun e => h.g_m e.symm), fun x hx => (h.ib x hx).only ho (h.ne_g hx), fun x hx => (h.vals x hx).keep (KJ.keepB hoo (zN _)), h.nd, h.perm, h.ub, h.ord, h.places.only ho (fun e => h.g_p e.symm), h.pl, h.base, ⟨h.apart.1, fun x hx => (h.apart.2 x hx).keep (KJ.keepB hoo (zN _))⟩⟩, hoo⟩
structure AX (w W : World) (B Bv g gm gp : Nat) (us : Int) (s : PJ) (its : List It) (P : List (Int × Int)) (r : ResV) (V1 V2 V3 V4 : Value) (xs : List (EvV × Value)) : Prop where
 rep : JRep W B g gm gp us s its P
 rb : Blk W w.heap.size 35 (resc r V1 V2 V3 V4)
 ob : Blk W (w.heap.size + 1) 29 (opc r.op V1)
 a : ResAt W Bv r V1 V2 V3 V4 xs
 only : Only (KJ B w) w W
section
variable {w W W2 : World} {B Bv g gm gp : Nat} {us us2 : Int} {s s2 : PJ} {its its2 : List It} {P P2 : List (Int × Int)} {r : ResV} {V1 V2 V3 V4 : Value} {xs : List (EvV × Value)}
theorem AX.adv (h : AX w W B Bv g gm gp us s its P r V1 V2 V3 V4 xs) (hb : Below W.heap.size W W2) : AX w W2 B Bv g gm gp us s its P r V1 V2 V3 V4 xs :=
 ⟨h.rep.below hb, h.rb.below hb, h.ob.below hb, h.a.keep (KeepB.of_below hb), KJ.trans h.only (KJ.of_below hb)⟩
theorem AX.nextK (h : AX w W B Bv g gm gp us s its P r V1 V2 V3 V4 xs) (hj : JRep W2 B g gm gp us2 s2 its2 P2) (ho : Only (KJ B W) W W2) (hBv : Bv ≤ B) : AX w W2 B Bv g gm gp us2 s2 its2 P2 r V1 V2 V3 V4 xs :=
 ⟨hj, h.rb.only ho (KJ.not_ h.rb (by decide) (by decide)), h.ob.only ho (KJ.not_ h.ob (by decide) (by decide)), h.a.keep (KJ.keepB ho hBv), KJ.trans h.only ho⟩
theorem AX.other (h : AX w W B Bv g gm gp us s its P r V1 V2 V3 V4 xs) {gw : Nat} {cs : Array Value} (hb : Blk W gw 35 cs) (ho : Only (fun k => k = gw) W W2) (hB : B ≤ gw) (hBv : Bv ≤ B) (hw : w.heap.size + 1 < gw) : AX w W2 B Bv g gm gp us s its P r V1 V2 V3 V4 xs :=
 ⟨h.rep.other hb ho hB, h.rb.only ho (by omega), h.ob.only ho (by omega), h.a.keep (KeepB.of_blk hb (by decide) (Nat.le_trans hBv hB) ho), KJ.result (by omega) h.only ho⟩
theorem WX.nextJ {gw : Nat} {x : WantV} {Vw Ve : Value} (h : WX W B gw x Vw Ve) (ho : Only (KJ B W) W W2) : WX W2 B gw x Vw Ve :=
 ⟨h.b.only ho (KJ.not_ h.b (by decide) (by decide)), h.v.keep (KJ.keepB ho (zN _)), h.e.keep (KJ.keepB ho (zN _)), h.lt⟩
end
def AddRet (B g gm gp : Nat) (us : Int) (r : Except Int PJ) (w : World) (e : Ending) (w' : World) : Prop :=
 Only (KJ B w) w w' ∧ (∀ x, r = .error x → e = .returned (.int .i64 x)) ∧ ∀ s2, r = .ok s2 → e = .returned (.int .i64 0) ∧ ∃ (us' : Int) (its' : List It) (P' : List (Int × Int)), (us ≤ us' ∧ us' ≤ us + 1) ∧ JRep w' B g gm gp us' s2 its' P'
theorem AddRet.err {B g gm gp : Nat} {us : Int} {r : Except Int PJ} {w w' : World} {x : Int} (h : r = .error x) (ho : Only (KJ B w) w w') : AddRet B g gm gp us r w (.returned (.int .i64 x)) w' :=
 ⟨ho, fun y hy => by rw [h] at hy; injection hy with hy; rw [hy], fun s2 h2 => by rw [h] at h2; cases h2⟩
theorem AddRet.ok {B g gm gp : Nat} {us us' : Int} {r : Except Int PJ} {w w' : World} {s2 : PJ} (h : r = .ok s2) (hu : us ≤ us' ∧ us' ≤ us + 1) {its : List It} {P : List (Int × Int)} (hk : JRep w' B g gm gp us' s2 its P) (ho : Only (KJ B w) w w') : AddRet B g gm gp us r w (.returned (.int .i64 0)) w' :=
 ⟨ho, fun y hy => (by rw [h] at hy; cases hy), fun s3 h3 => (by rw [h] at h3; injection h3 with h3; subst h3; exact ⟨rfl, _, _, _, hu, hk⟩)⟩
theorem resB {W : World} {g : Nat} {r : ResV} {V1 V2 V3 V4 : Value} (h : Blk W g 35 (resc r V1 V2 V3 V4)) : W.cell? ⟨g, 9, none⟩ = some (.int .u64 r.at_) ∧ W.cell? ⟨g, 10, none⟩ = some (.int .i64 r.err) ∧ W.cell? ⟨g, 11, none⟩ = some (.bool r.hit) ∧ W.cell? ⟨g, 12, none⟩ = some V2 ∧ W.cell? ⟨g, 13, none⟩ = some (.string r.ent.key) ∧ W.cell? ⟨g, 14, none⟩ = some V3 ∧ W.cell? ⟨g, 15, none⟩ = some (.int .u64 r.ent.dl) ∧ W.cell? ⟨g, 16, none⟩ = some (.int .u64 r.ent.birth) ∧ W.cell? ⟨g, 17, none⟩ = some (.int .i64 r.cursor) ∧ W.cell? ⟨g, 18, none⟩ = some V4 ∧ W.cell? ⟨g, 19, none⟩ = some (.int .i64 r.len) ∧ W.cell? ⟨g, 20, none⟩ = some (.int .i64 r.cost) :=
 ⟨h.cell 9 _ rfl, h.cell 10 _ rfl, h.cell 11 _ rfl, h.cell 12 _ rfl, h.cell 13 _ rfl, h.cell 14 _ rfl, h.cell 15 _ rfl, h.cell 16 _ rfl, h.cell 17 _ rfl, h.cell 18 _ rfl, h.cell 19 _ rfl, h.cell 20 _ rfl⟩
theorem wantB {W : World} {g : Nat} {x : WantV} {V1 V2 : Value} (h : Blk W g 35 (wantc x V1 V2)) : W.cell? ⟨g, 11, none⟩ = some (.bool x.hit) ∧ W.cell? ⟨g, 12, none⟩ = some V1 ∧ W.cell? ⟨g, 13, none⟩ = some (.string x.ent.key) ∧ W.cell? ⟨g, 14, none⟩ = some V2 ∧ W.cell? ⟨g, 15, none⟩ = some (.int .u64 x.ent.dl) ∧ W.cell? ⟨g, 16, none⟩ = some (.int .u64 x.ent.birth) ∧ W.cell? ⟨g, 17, none⟩ = some (.int .i64 x.cursor) :=
 ⟨h.cell 11 _ rfl, h.cell 12 _ rfl, h.cell 13 _ rfl, h.cell 14 _ rfl, h.cell 15 _ rfl, h.cell 16 _ rfl, h.cell 17 _ rfl⟩
end Go.Proofs.Ytnabbimompapfaa

/- Law 45's reads: it computes what rcvd says. -/
import Derived.Test.YtffigmciclopdaaDoorJouV
namespace Go.Proofs.YtffigmciclopdaaDoor
open Go Go.RowKit

/-- The sum over a record but for its last four bytes is the sum behind it. -/
theorem sum_take {ds r : List UInt8} {s : Nat} {o : OpV} (h : recO s o = some r) (hs : s < 4294967296) : foldB s (r.take (r.length - 4)) = sumL (ds ++ r) := by
  unfold recO at h
  cases hw : wrOp o with
  | none => rw [hw] at h; cases h
  | some b =>
    rw [hw] at h
    have e : recB s b = r := by simpa using h
    subst e
    rw [sumL_rec ds b s hs]
    have hl : (recB s b).length = b.length + 6 := recB_len s b
    have e2 : (recB s b).take ((recB s b).length - 4) = headB b.length ++ b := by
      rw [hl]
      unfold recB
      have e3 : b.length + 6 - 4 = (headB b.length ++ b).length := by simp [headB]
      rw [e3, List.take_left]
    rw [e2]
    rfl

theorem wrap64_id (n : Int) (h0 : 0 ≤ n) (h1 : n ≤ 9223372036854775807) : wrap64 n = n := by unfold wrap64; omega

theorem head_wrap {x y N : Nat} (h : x * 256 + y = N) (hx : x < 256) (hy : y < 256) : wrap64 (wrap64 (256 * wrap64 (x : Int)) + wrap64 (y : Int)) = (N : Int) := by
  rw [wrap64_id (x : Int) (by omega) (by omega), wrap64_id (y : Int) (by omega) (by omega), wrap64_id (256 * (x : Int)) (by omega) (by omega), wrap64_id _ (by omega) (by omega)]
  omega
theorem wrap_end (d N M : Nat) (h : d + (N + 6) = M) (hd : d ≤ 1000000) (hN : (N : Int) ≤ 65535) : IntKind.i64.wrap (IntKind.i64.wrap ((d : Int) + (N : Int)) + 6) = (M : Int) := by
  have e1 : IntKind.i64.wrap ((d : Int) + (N : Int)) = (d : Int) + (N : Int) := by rw [IntKind.wrap_i64 _]; omega
  rw [e1, IntKind.wrap_i64 _]; omega
theorem head_le {x y N : Nat} (h : x * 256 + y = N) (hx : x < 256) (hy : y < 256) : (N : Int) ≤ 65535 := by omega

theorem sum_rec_any (B : Nat) (ds r : List UInt8) (o : OpV) (RA : Option Addr) (rc : Nat) (w : World) (h : recO (sumL ds) o = some r) (hb : Hid (Bts w B 5 (.slice RA (r.length - 4) rc) (r.take (r.length - 4)))) :
    Hid (Calls Tryd.prog 16 #[.int .u32 (sumL ds), .slice RA (r.length - 4) rc] w fun e w' => e = .returned (.int .u32 (sumL (ds ++ r))) ∧ w = w') := by
  have hlr := recO_len h
  have hsum := lawSum_any B (sumL ds) (.slice RA (r.length - 4) rc) (r.take (r.length - 4)) w hb.out (sumL_lt ds) (by rw [List.length_take]; omega)
  rw [sum_take h (sumL_lt ds)] at hsum
  exact Lib.hid hsum

/-- What reads gives. -/
def RdsRet (bs : List UInt8) (w : World) (e : Ending) (w' : World) : Prop :=
  ∃ v ds es ps, e = .returned (.tuple #[v, .int .i64 (ds.length : Int)]) ∧ rcvd bs = (ds, es, ps.map Prod.fst) ∧ OpsOwn w' w.heap.size w.heap.size v ps ∧ (∃ rest, bs = ds ++ rest) ∧ Below w.heap.size w w'

/-- Where reads stands. -/
structure RsI (w wr : World) (bs : List UInt8) (v : Value) (ds : List UInt8) (es : List Nat) (ps : List (OpV × Value)) (rest : List UInt8) : Prop where
  out : OpsOwn wr w.heap.size w.heap.size v ps
  below : Below w.heap.size w wr
  at_ : RcP bs ds es (ps.map Prod.fst) rest
  len : es.length = ps.length
theorem RsI.adv {w wr W : World} {bs : List UInt8} {v : Value} {ds : List UInt8} {es : List Nat} {ps : List (OpV × Value)} {rest : List UInt8} (h : RsI w wr bs v ds es ps rest) (hb : Below wr.heap.size wr W) : RsI w W bs v ds es ps rest :=
  ⟨h.out.below hb, h.below.trans (hb.mono h.below.size), h.at_, h.len⟩
theorem RsI.start (w : World) (bs : List UInt8) : RsI w w bs (.slice none 0 0) [] [] [] bs :=
  ⟨⟨World.ownsRow_nil _ _ _ _, fun p hp => by simp at hp, fun p hp => by simp at hp⟩, Below.refl _ _, RcP.start bs, rfl⟩
theorem RsI.stop {w wr : World} {bs : List UInt8} {v : Value} {ds : List UInt8} {es : List Nat} {ps : List (OpV × Value)} {rest : List UInt8} (h : RsI w wr bs v ds es ps rest) (hs : okRec (sumL ds) rest = none) :
    RdsRet bs w (.returned (.tuple #[v, .int .i64 (ds.length : Int)])) wr :=
  ⟨v, ds, es, ps, rfl, h.at_.stop hs, h.out, ⟨rest, h.at_.cut⟩, h.below⟩
theorem RsI.full {w wr : World} {bs : List UInt8} {v : Value} {ds : List UInt8} {es : List Nat} {ps : List (OpV × Value)} {rest : List UInt8} (h : RsI w wr bs v ds es ps rest) (hf : 4096 ≤ ps.length) :
    RdsRet bs w (.returned (.tuple #[v, .int .i64 (ds.length : Int)])) wr := by
  refine ⟨v, ds, es, ps, rfl, ?_, h.out, ⟨rest, h.at_.cut⟩, h.below⟩
  cases hs : okRec (sumL ds) rest with
  | none => exact h.at_.stop hs
  | some p => exact h.at_.full (o := p.1) (r := p.2) hs (.inl (by rw [h.len]; exact hf))
theorem RsI.step {w W W2 : World} {bs : List UInt8} {v v2 : Value} {ds r : List UInt8} {es : List Nat} {ps : List (OpV × Value)} {rest : List UInt8} {o : OpV} {V : Value} (h : RsI w W bs v ds es ps rest) (hk : okRec (sumL ds) rest = some (o, r)) (hf : ¬ (4096 ≤ ps.length)) (hl : bs.length ≤ 1000000)
    (hV : Bts W w.heap.size 5 V o.val) (hg : W.grownBy W2 v.ownBlock) (ho : W2.ownsRow w.heap.size 43 9 v2 (ps.length + 1) (ocs ps ++ opcs o V)) :
    RsI w W2 bs v2 (ds ++ r) (es ++ [ds.length + r.length]) (ps ++ [(o, V)]) (rest.drop r.length) := by
  have hon := Only.of_grown hg
  obtain ⟨_, h2, h3, h4⟩ := okRec_some hk
  have hkb : KeepB w.heap.size 5 W W2 := KeepB.of_only hon fun k hk e => ⟨(row_heap h.out.row e).1, fun c fr hc => by
    obtain ⟨_, cur, h2⟩ := row_heap h.out.row e
    rw [h2] at hc
    injection hc with hc
    injection hc with _ ht
    exact absurd ht (by decide)⟩
  refine ⟨⟨?_, fun p hp => ?_, fun p hp => ?_⟩, h.below.trans (hon.below (fun i hi _ e => by have := (row_heap h.out.row e).1; omega) h.below.size), ?_, ?_⟩
  · rw [List.length_append, List.length_singleton, ocs_append, show ocs [(o, V)] = opcs o V by simp [ocs]]; exact ho
  · rcases List.mem_append.1 hp with hp | hp
    · exact (h.out.vals p hp).keep hkb
    · have e := List.mem_singleton.1 hp
      subst e
      exact hV.keep hkb
  · rcases List.mem_append.1 hp with hp | hp
    · exact h.out.wf p hp
    · have e := List.mem_singleton.1 hp
      subst e; exact h4
  · rw [List.map_append]
    refine h.at_.step hk ?_
    have hc := congrArg List.length h.at_.cut
    rw [List.length_append] at hc
    have hr : r.length ≤ rest.length := by rw [h2, List.length_take]; omega
    rw [h.len]
    omega
  · rw [List.length_append, List.length_append, List.length_singleton, List.length_singleton, h.len]

theorem beq_dec (xs ys : List UInt8) : (xs == ys) = decide (xs = ys) := by
  by_cases h : xs = ys
  · subst h; simp
  · simp [h]

/-- Two slices that are compared. -/
structure Rd9 (W : World) (B : Nat) (v : Value) (r : List UInt8) (u : Value) (t : List UInt8) : Prop where
  a : Bts W B 5 v r
  b : Bts W B 5 u t
  triv : Below W.heap.size W W
theorem Rd9.adv {W W2 : World} {B : Nat} {v u : Value} {r t : List UInt8} (h : Rd9 W B v r u t) (hb : Below W.heap.size W W2) : Rd9 W2 B v r u t := ⟨h.a.below hb, h.b.below hb, Below.refl _ _⟩


set_option maxRecDepth 100000 in
set_option maxHeartbeats 4000000 in
theorem reads_any (B : Nat) (V : Value) (bs : List UInt8) (w : World) (hv : Bts w B 5 V bs) (hB : B ≤ w.heap.size) (hk : KG w) (hl : bs.length ≤ 1000000) :
    Calls Tryd.prog 27 #[V] w (RdsRet bs w) := by
  obtain ⟨i0, hi0, hz0, hz1, hz2⟩ := info_parts op_info
  obtain ⟨A, cap, rfl⟩ := hv.form
  have HV := Lib.hid (hv.more hB)
  have HK := Lib.hid hk
  have hlI : (bs.length : Int) ≤ 1000000 := by omega
  have HL := Lib.hid hl
  have HSt := Lib.hid (RsI.start w bs)
  have hcap : bs.length ≤ cap := by
    obtain ⟨_, _, e3, hcc, _⟩ := hv
    injection e3 with _ _ e5
    omega
  have hcapI : (bs.length : Int) ≤ (cap : Int) := by omega
  clear hv hB hk hl
  go_enter Tryd.func27, Tryd.ntmps27
  go_wp2_with fail
  go_loopw [4, 5, 6] (fun x4 x5 x6 wr => ∃ v ds es ps rest, x4 = v ∧ x5 = .int .u32 (sumL ds) ∧ x6 = .int .i64 (ds.length : Int) ∧ RsI w wr bs v ds es ps rest) (fun _ _ x6 _ => bs.length - (intOf x6).toNat)
  case atStart => exact ⟨_, _, _, _, _, rfl, rfl, rfl, HSt.out⟩
  case round =>
    obtain ⟨v, ds, es, ps, rest, rfl, rfl, rfl, hI⟩ := hrel
    have HI := Lib.hid hI
    obtain ⟨VA, vcap, rfl, hvc, hvm⟩ := own_form hI.out.row
    have hcut := hI.at_.cut
    have hll : bs.length = ds.length + rest.length := by rw [hcut, List.length_append]
    have hllI : (bs.length : Int) = (ds.length : Int) + (rest.length : Int) := by omega
    have hpm : (ps.length : Int) ≤ 9223372036854775807 := by unfold maxLen at hvm; omega
    by_cases hfu : 4096 ≤ ps.length
    · have hfuI : ¬ (ps.length : Int) < 4096 := by omega
      have HS := Lib.hid (hI.full hfu)
      clear hI hcut hll
      go_wp2_with fail
      go_ret2
      exact HS.out
    · have hfuI : (ps.length : Int) < 4096 := by omega
      by_cases h6 : rest.length < 6
      · have h6I : ¬ (6 : Int) ≤ (bs.length : Int) - (ds.length : Int) := by omega
        have HS := Lib.hid (hI.stop (okRec_long (N := headN rest) rfl (.inl (by omega))))
        have hdl : (ds.length : Int) ≤ (bs.length : Int) := by omega
        clear hI hcut hll hllI
        go_wp2_with fail
        go_ret2
        exact HS.out
      · have h6I : (6 : Int) ≤ (bs.length : Int) - (ds.length : Int) := by omega
        have h6R : 6 ≤ rest.length := by omega
        obtain ⟨x, hrx⟩ : ∃ x, rest[0]? = some x := ⟨_, List.getElem?_eq_getElem (by omega)⟩
        obtain ⟨y, hry⟩ : ∃ y, rest[1]? = some y := ⟨_, List.getElem?_eq_getElem (by omega)⟩
        have hbx : bs[ds.length]? = some x := by rw [hcut, List.getElem?_append_right (Nat.le_refl _), Nat.sub_self]; exact hrx
        have hby : bs[ds.length + 1]? = some y := by rw [hcut, List.getElem?_append_right (by omega), Nat.add_sub_cancel_left]; exact hry
        have hvr := HV.out.below hI.below
        obtain ⟨g, off, hAA, q0⟩ := hvr.cellAt hbx
        obtain ⟨g', off', hAA', q1⟩ := hvr.cellAt hby
        rw [hAA] at hAA'
        injection hAA' with hAA'
        injection hAA' with e1 e2
        subst e1 e2
        subst hAA
        have h0I : (ds.length : Int) < (bs.length : Int) := by omega
        have h1I : (ds.length : Int) + 1 < (bs.length : Int) := by omega
        have ht1 : ((ds.length : Int) + 1).toNat = ds.length + 1 := by omega
        have hw0 : (0 : Int) ≤ (ds.length : Int) + 1 := by omega
        obtain ⟨N, hN⟩ : ∃ N, headN rest = N := ⟨_, rfl⟩
        have hNe : x.toNat * 256 + y.toNat = N := by
          rw [← hN]; unfold headN
          rw [List.getD_eq_getElem?_getD, List.getD_eq_getElem?_getD, hrx, hry]; rfl
        have HN := Lib.hid hN
        have HNe := Lib.hid hNe
        clear hN hNe
        have hN4 := head_le HNe.out x.toNat_lt y.toNat_lt
        have HJ := Lib.hid <| head_wrap HNe.out x.toNat_lt y.toNat_lt
        have HCut := Lib.hid hcut
        have HVr := Lib.hid hvr
        have HT1 := Lib.hid ht1
        have HW0 := Lib.hid hw0
        have HLL := Lib.hid hllI
        have H1 := Lib.hid h1I
        clear ht1 hw0 hrx hry hbx hby hcut hI hll hvr h1I hllI
        go_wp2_with fail
        have h1I := H1.out
        have hw0 := HW0.out
        have ht1 := HT1.out
        go_quiet (fail)
        have HIq := Lib.hid (HI.out.adv (below_drewN wr nq))
        have HBq := Lib.hid (HVr.out.below (below_drewN wr nq))
        have HJo := HJ.out
        generalize wrap64 (wrap64 (256 * wrap64 (x.toNat : Int)) + wrap64 (y.toNat : Int)) = nn at HJo ⊢
        subst HJo
        generalize wr.drewN nq = wq at HIq HBq ⊢
        clear q0 q1 hw0 ht1 h1I h0I
        have hlN : bs.length = ds.length + rest.length := by have := HLL.out; omega
        by_cases h7 : rest.length < N + 6
        · have h7I : (bs.length : Int) - (ds.length : Int) < (N : Int) + 6 := by omega
          have HS := Lib.hid (HIq.out.stop (okRec_long HN.out (.inl h7)))
          clear hlN h7
          go_wp2_with fail
          go_ret2
          exact HS.out
        · have h7I : ¬ (bs.length : Int) - (ds.length : Int) < (N : Int) + 6 := by omega
          obtain ⟨P, hP⟩ : ∃ P, (rest.take (2 + N)).drop 2 = P := ⟨_, rfl⟩
          have hPl : P.length = N := by rw [← hP, List.length_drop, List.length_take]; omega
          have hccI : (ds.length : Int) + 2 + (N : Int) ≤ (cap : Int) := by omega
          have hcc6 : (ds.length : Int) + (N : Int) + 6 ≤ (cap : Int) := by omega
          have hb2 := HBq.out.cut_ (ds.length + 2) (ds.length + 2 + N) (by omega) (by omega)
          have hP2 : (bs.take (ds.length + 2 + N)).drop (ds.length + 2) = P := by
            rw [HCut.out, ← hP, Nat.add_assoc, List.take_length_add_append, List.drop_length_add_append]
          have e2 : sliced (some ⟨g, off, none⟩) (ds.length + 2) (ds.length + 2 + N) cap 1 = .slice (some ⟨g, off + (ds.length + 2), none⟩) N (cap - (ds.length + 2)) := by
            unfold sliced
            rw [if_neg (by omega), Option.map_some, add_plain, Nat.mul_one, Nat.add_sub_cancel_left]
          rw [hP2, e2] at hb2
          have hb6 : ∀ W, Bts W w.heap.size 5 (.slice (some ⟨g, off, none⟩) bs.length cap) bs → Bts W w.heap.size 5 (.slice (some ⟨g, off + ds.length, none⟩) (N + 6) (cap - ds.length)) (rest.take (N + 6)) := fun W h => by
            have := h.cut_ ds.length (ds.length + (N + 6)) (by omega) (by omega)
            have e3 : (bs.take (ds.length + (N + 6))).drop ds.length = rest.take (N + 6) := by rw [HCut.out, List.take_length_add_append, List.drop_left]
            have e6 : sliced (some ⟨g, off, none⟩) ds.length (ds.length + (N + 6)) cap 1 = .slice (some ⟨g, off + ds.length, none⟩) (N + 6) (cap - ds.length) := by
              unfold sliced
              rw [if_neg (by omega), Option.map_some, add_plain, Nat.mul_one, Nat.add_sub_cancel_left]
            rwa [e3, e6] at this
          have HB6 := Lib.hid hb6
          have HPa := Lib.hid (parse_any w.heap.size (.slice (some ⟨g, off + (ds.length + 2), none⟩) N (cap - (ds.length + 2))) P wq hb2 HK.out.1 HIq.out.below.size (HK.out.below HIq.out.below HK.out.1))
          have HPP := Lib.hid hP
          have HPl := Lib.hid hPl
          have HL6 := Lib.hid h7
          have hs0 : (0 : Int) ≤ (ds.length : Int) + 2 := by omega
          have hs1 : ((ds.length : Int) + 2).toNat = ds.length + 2 := by omega
          have hs2 : ((ds.length : Int) + 2 + (N : Int)).toNat = ds.length + 2 + N := by omega
          have hs3 : ds.length + 2 + N - (ds.length + 2) = N := by omega
          have hs4 : (ds.length : Int) + 2 ≤ (ds.length : Int) + 2 + (N : Int) := by omega
          clear hP hPl hb2 hb6 h7 e2 hP2 hlN h6R
          go_wp2_with fail
          clear hs0 hs1 hs2 hs3 hs4
          refine (HPa.out.mono ?_)
          intro e w1 hret
          unfold ParseRet at hret
          rw [HPl.out] at hret
          by_cases h4 : 4096 < N
          · rw [if_pos h4] at hret
            obtain ⟨rfl, hb1⟩ := hret
            have HS := Lib.hid ((HIq.out.adv hb1).stop (okRec_long HN.out (.inr h4)))
            clear hb1 h4
            go_wp2_with fail
            go_ret2
            exact HS.out
          · rw [if_neg h4] at hret
            obtain ⟨v8, qs, rfl, hmq, hq, hb1⟩ := hret
            obtain ⟨A8, c8, rfl⟩ := hq.at_.slice
            have hql : qs.length = (rdOps P).length := by rw [← hmq, List.length_map]
            have hql2 : qs.length ≤ 65535 := by
              have := rdOps_len P.length P (Nat.le_refl _)
              have := HPl.out
              omega
            have hql3 : (qs.length : Int) ≤ 65535 := by omega
            have HI1 := Lib.hid (HIq.out.adv hb1)
            have HB1 := Lib.hid (HBq.out.below hb1)
            have HK1 := Lib.hid ((HK.out.below HIq.out.below HK.out.1).below hb1 (Nat.lt_of_lt_of_le HK.out.1 HIq.out.below.size))
            have HQ := Lib.hid (hq.base HIq.out.below.size)
            by_cases h1 : qs.length = 1
            · obtain ⟨⟨o, VO⟩, rfl⟩ : ∃ p, qs = [p] := List.length_eq_one_iff.1 h1
              have ho : rdOps P = [o] := by rw [← hmq]; rfl
              have hvo := HQ.out.vals (o, VO) (by simp)
              have hto := HQ.out.wf (o, VO) (by simp)
              obtain ⟨OA, oc, eV⟩ := hvo.form
              dsimp only at hvo hto eV
              subst eV
              rw [List.length_singleton] at HQ
              obtain ⟨g8, off8, rfl, _⟩ := HQ.out.at_.at_ (i := 0) (p := (o, .slice OA o.val.length oc)) rfl
              obtain ⟨z0, z1, z2, z3, z4, z5, z6, z7, z8⟩ := HQ.out.at_.at0
              have HTo := Lib.hid hto
              have HVo := Lib.hid hvo
              have HO := Lib.hid ho
              have HRec := Lib.hid (lawRecord_any w.heap.size (sumL ds) o (.slice OA o.val.length oc) w1 hvo HK1.out hto (sumL_lt ds))
              unfold opv opc at HRec
              clear hmq hql hql2 hql3 h1 hvo hto ho hb1 hq
              simp only [List.length_singleton]
              go_wp2_with fail
              refine HRec.out.mono ?_
              intro e w2 hret
              cases hr : recO (sumL ds) o with
              | none =>
                rw [hr] at hret
                obtain ⟨rfl, hb2⟩ := hret
                have HS := Lib.hid (HI1.out.adv hb2) 
                have HBad := Lib.hid (okRec_bad (s := sumL ds) HN.out HPP.out HO.out (fun r hr2 => by rw [hr] at hr2; cases hr2))
                clear hb2 hr z0 z1 z2 z3 z4 z5 z6 z7 z8
                go_wp2_with fail
                go_quiet (fail)
                have HSq := Lib.hid (HS.out.adv (below_drewN w2 nq))
                go_wp2_with fail
                go_ret2
                exact HSq.out.stop HBad.out
              | some r =>
                rw [hr] at hret
                obtain ⟨v3, rfl, ho3, hb2⟩ := hret
                have HI2 := Lib.hid (HI1.out.adv hb2)
                have HQ2 := Lib.hid (HQ.out.below hb2)
                have HO3 := Lib.hid (ownsRow_base ho3 HI1.out.below.size)
                have HB2 := Lib.hid (HB1.out.below hb2)
                have HR := Lib.hid hr
                obtain ⟨RA, rc, rfl, hrc, hrm⟩ := own_form ho3
                obtain ⟨T6, hT6⟩ : ∃ T6, rest.take (N + 6) = T6 := ⟨_, rfl⟩
                have H9 : Hid (Rd9 w2 w.heap.size (.slice RA r.length rc) r (.slice (some ⟨g, off + ds.length, none⟩) (N + 6) (cap - ds.length)) T6) := Lib.hid ⟨Bts.of_own HO3.out _, hT6 ▸ HB6.out _ HB2.out, Below.refl _ _⟩
                obtain ⟨q, hq⟩ : ∃ q, decide (r = T6) = q := ⟨_, rfl⟩
                have hqb : (r == T6) = q := by rw [← hq]; exact beq_dec r T6
                have HT6 := Lib.hid hT6
                have HQq := Lib.hid hq
                have HQb := Lib.hid hqb
                obtain ⟨M, hM⟩ : ∃ M, ds.length + (N + 6) = M := ⟨_, rfl⟩
                have HM1 := Lib.hid (wrap_end (ds.length) N M hM (by omega) hN4)
                have hm1 : (M : Int) ≤ (cap : Int) := by omega
                have hm2 : ds.length ≤ M := by omega
                have hm3 : ¬ cap = ds.length := by omega
                have hm4 : M - ds.length = N + 6 := by omega
                have HM2 := Lib.hid hm2
                have HM3 := Lib.hid hm3
                have HM4 := Lib.hid hm4
                have HM0 := Lib.hid hM
                clear hM hm2 hm3 hm4
                clear hT6 hq hqb hb2 hr ho3 z0 z1 z2 z3 z4 z5 z6 z7 z8
                go_upto_region 9 with fail
                refine wp_region_noPanic ?_
                refine wp_region_held_drew (S := fun W => Rd9 W w.heap.size (.slice RA r.length rc) r (.slice (some ⟨g, off + ds.length, none⟩) (N + 6) (cap - ds.length)) T6) (by kernel_rfl) (H9.out.adv (Below.refl _ _).drew) (fun hHeld => ?_)
                refine wpAnyH_take (i := 0) (oi := ⟨_, _, _, _, _, _⟩) (v := ?_) rfl (by kernel_rfl) (by kernel_rfl) (by kernel_rfl) (fun _ _ _ h => h) (Or.inl ⟨by rfl, ?_⟩) (by assumption) ?_
                rotate_left 1
                · intro W hSw
                  have hqb := HQb.out; have cb := hSw.a.string (P := Tryd.prog) 22 9 Tryd.underlying22 Tryd.underlying5 Tryd.underlying9; have c1 := hSw.b.string (P := Tryd.prog) 22 9 Tryd.underlying22 Tryd.underlying5 Tryd.underlying9
                  clear hSw
                  go_simp
                  try with_reducible rfl
                try simp only [Act.put, List.setIfInBounds_toArray, List.set_cons_zero, List.set_cons_succ]
                refine wpAnyH_take (i := 1) (oi := ⟨_, _, _, _, _, _⟩) (v := ?_) rfl (by kernel_rfl) (by kernel_rfl) (by kernel_rfl) (fun _ _ _ h => h) (Or.inl ⟨by rfl, ?_⟩) (by assumption) ?_
                rotate_left 1
                · intro W hSw
                  have hqb := HQb.out; have cb := hSw.a.string (P := Tryd.prog) 22 9 Tryd.underlying22 Tryd.underlying5 Tryd.underlying9; have c1 := hSw.b.string (P := Tryd.prog) 22 9 Tryd.underlying22 Tryd.underlying5 Tryd.underlying9
                  clear hSw
                  go_simp
                  try with_reducible rfl
                try simp only [Act.put, List.setIfInBounds_toArray, List.set_cons_zero, List.set_cons_succ]
                refine wpAnyH_take (i := 2) (oi := ⟨_, _, _, _, _, _⟩) (v := ?_) rfl (by kernel_rfl) (by kernel_rfl) (by kernel_rfl) (fun _ _ _ h => h) (Or.inl ⟨by rfl, ?_⟩) (by assumption) ?_
                rotate_left 1
                · intro W hSw
                  have hqb := HQb.out; have cb := hSw.a.string (P := Tryd.prog) 22 9 Tryd.underlying22 Tryd.underlying5 Tryd.underlying9; have c1 := hSw.b.string (P := Tryd.prog) 22 9 Tryd.underlying22 Tryd.underlying5 Tryd.underlying9
                  clear hSw
                  go_simp
                  try with_reducible rfl
                try simp only [Act.put, List.setIfInBounds_toArray, List.set_cons_zero, List.set_cons_succ]
                refine wpAnyH_take (i := 3) (oi := ⟨_, _, _, _, _, _⟩) (v := ?_) rfl (by kernel_rfl) (by kernel_rfl) (by kernel_rfl) (fun _ _ _ h => h) (Or.inl ⟨by rfl, ?_⟩) (by assumption) ?_
                rotate_left 1
                · intro W hSw
                  have hqb := HQb.out; have cb := hSw.a.string (P := Tryd.prog) 22 9 Tryd.underlying22 Tryd.underlying5 Tryd.underlying9; have c1 := hSw.b.string (P := Tryd.prog) 22 9 Tryd.underlying22 Tryd.underlying5 Tryd.underlying9
                  clear hSw
                  go_simp
                  try with_reducible rfl
                try simp only [Act.put, List.setIfInBounds_toArray, List.set_cons_zero, List.set_cons_succ]
                refine wpAnyH_take (i := 4) (oi := ⟨_, _, _, _, _, _⟩) (v := ?_) rfl (by kernel_rfl) (by kernel_rfl) (by kernel_rfl) (fun _ _ _ h => h) (Or.inl ⟨by rfl, ?_⟩) (by assumption) ?_
                rotate_left 1
                · intro W hSw
                  have hqb := HQb.out; have cb := hSw.a.string (P := Tryd.prog) 22 9 Tryd.underlying22 Tryd.underlying5 Tryd.underlying9; have c1 := hSw.b.string (P := Tryd.prog) 22 9 Tryd.underlying22 Tryd.underlying5 Tryd.underlying9
                  clear hSw
                  go_simp
                  try with_reducible rfl
                try simp only [Act.put, List.setIfInBounds_toArray, List.set_cons_zero, List.set_cons_succ]
                refine wpAnyH_take (i := 5) (oi := ⟨_, _, _, _, _, _⟩) (v := ?_) rfl (by kernel_rfl) (by kernel_rfl) (by kernel_rfl) (fun _ _ _ h => h) (Or.inl ⟨by rfl, ?_⟩) (by assumption) ?_
                rotate_left 1
                · intro W hSw
                  have hqb := HQb.out; have cb := hSw.a.string (P := Tryd.prog) 22 9 Tryd.underlying22 Tryd.underlying5 Tryd.underlying9; have c1 := hSw.b.string (P := Tryd.prog) 22 9 Tryd.underlying22 Tryd.underlying5 Tryd.underlying9
                  clear hSw
                  go_simp
                  try with_reducible rfl
                try simp only [Act.put, List.setIfInBounds_toArray, List.set_cons_zero, List.set_cons_succ]
                refine wpAnyH_take (i := 6) (oi := ⟨_, _, _, _, _, _⟩) (v := ?_) rfl (by kernel_rfl) (by kernel_rfl) (by kernel_rfl) (fun _ _ _ h => h) (Or.inl ⟨by rfl, ?_⟩) (by assumption) ?_
                rotate_left 1
                · intro W hSw
                  have hqb := HQb.out; have cb := hSw.a.string (P := Tryd.prog) 22 9 Tryd.underlying22 Tryd.underlying5 Tryd.underlying9; have c1 := hSw.b.string (P := Tryd.prog) 22 9 Tryd.underlying22 Tryd.underlying5 Tryd.underlying9
                  clear hSw
                  go_simp
                  try with_reducible rfl
                try simp only [Act.put, List.setIfInBounds_toArray, List.set_cons_zero, List.set_cons_succ]
                refine wpAnyH_take (i := 7) (oi := ⟨_, _, _, _, _, _⟩) (v := ?_) rfl (by kernel_rfl) (by kernel_rfl) (by kernel_rfl) (fun _ _ _ h => h) (Or.inl ⟨by rfl, ?_⟩) (by assumption) ?_
                rotate_left 1
                · intro W hSw
                  have hqb := HQb.out; have cb := hSw.a.string (P := Tryd.prog) 22 9 Tryd.underlying22 Tryd.underlying5 Tryd.underlying9; have c1 := hSw.b.string (P := Tryd.prog) 22 9 Tryd.underlying22 Tryd.underlying5 Tryd.underlying9
                  clear hSw
                  go_simp
                  try with_reducible rfl
                try simp only [Act.put, List.setIfInBounds_toArray, List.set_cons_zero, List.set_cons_succ]
                refine wpAnyH_take (i := 8) (oi := ⟨_, _, _, _, _, _⟩) (v := ?_) rfl (by kernel_rfl) (by kernel_rfl) (by kernel_rfl) (fun _ _ _ h => h) (Or.inl ⟨by rfl, ?_⟩) (by assumption) ?_
                rotate_left 1
                · intro W hSw
                  have hqb := HQb.out; have cb := hSw.a.string (P := Tryd.prog) 22 9 Tryd.underlying22 Tryd.underlying5 Tryd.underlying9; have c1 := hSw.b.string (P := Tryd.prog) 22 9 Tryd.underlying22 Tryd.underlying5 Tryd.underlying9
                  clear hSw
                  go_simp
                  try with_reducible rfl
                try simp only [Act.put, List.setIfInBounds_toArray, List.set_cons_zero, List.set_cons_succ]
                refine wpAnyH_take (i := 9) (oi := ⟨_, _, _, _, _, _⟩) (v := ?_) rfl (by kernel_rfl) (by kernel_rfl) (by kernel_rfl) (fun _ _ _ h => h) (Or.inl ⟨by rfl, ?_⟩) (by assumption) ?_
                rotate_left 1
                · intro W hSw
                  have hqb := HQb.out; have cb := hSw.a.string (P := Tryd.prog) 22 9 Tryd.underlying22 Tryd.underlying5 Tryd.underlying9; have c1 := hSw.b.string (P := Tryd.prog) 22 9 Tryd.underlying22 Tryd.underlying5 Tryd.underlying9
                  clear hSw
                  go_simp
                  try with_reducible rfl
                try simp only [Act.put, List.setIfInBounds_toArray, List.set_cons_zero, List.set_cons_succ]
                refine wpAnyH_take (i := 10) (oi := ⟨_, _, _, _, _, _⟩) (v := ?_) rfl (by kernel_rfl) (by kernel_rfl) (by kernel_rfl) (fun _ _ _ h => h) (Or.inl ⟨by rfl, ?_⟩) (by assumption) ?_
                rotate_left 1
                · intro W hSw
                  have hm := HM1.out
                  clear hSw
                  go_simp
                  try with_reducible rfl
                try simp only [Act.put, List.setIfInBounds_toArray, List.set_cons_zero, List.set_cons_succ]
                refine wpAnyH_take (i := 11) (oi := ⟨_, _, _, _, _, _⟩) (v := ?_) rfl (by kernel_rfl) (by kernel_rfl) (by kernel_rfl) (fun _ _ _ h => h) (Or.inl ⟨by rfl, ?_⟩) (by assumption) ?_
                rotate_left 1
                · intro W hSw
                  have hm2 := HM2.out; have hm3 := HM3.out; have hm4 := HM4.out
                  clear hSw
                  go_simp
                  try with_reducible rfl
                try simp only [Act.put, List.setIfInBounds_toArray, List.set_cons_zero, List.set_cons_succ]
                clear hm1
                refine wpAnyH_take (i := 12) (oi := ⟨_, _, _, _, _, _⟩) (v := ?_) rfl (by kernel_rfl) (by kernel_rfl) (by kernel_rfl) (fun _ _ _ h => h) (Or.inl ⟨by rfl, ?_⟩) (by assumption) ?_
                rotate_left 1
                · intro W hSw
                  have hqb := HQb.out; have cb := hSw.a.string (P := Tryd.prog) 22 9 Tryd.underlying22 Tryd.underlying5 Tryd.underlying9; have c1 := hSw.b.string (P := Tryd.prog) 22 9 Tryd.underlying22 Tryd.underlying5 Tryd.underlying9
                  clear hSw
                  go_simp
                  try with_reducible rfl
                try simp only [Act.put, List.setIfInBounds_toArray, List.set_cons_zero, List.set_cons_succ]
                refine wpAnyH_take (i := 13) (oi := ⟨_, _, _, _, _, _⟩) (v := ?_) rfl (by kernel_rfl) (by kernel_rfl) (by kernel_rfl) (fun _ _ _ h => h) (Or.inl ⟨by rfl, ?_⟩) (by assumption) ?_
                rotate_left 1
                · intro W hSw
                  have hqb := HQb.out; have cb := hSw.a.string (P := Tryd.prog) 22 9 Tryd.underlying22 Tryd.underlying5 Tryd.underlying9; have c1 := hSw.b.string (P := Tryd.prog) 22 9 Tryd.underlying22 Tryd.underlying5 Tryd.underlying9
                  clear hSw
                  go_simp
                  try with_reducible rfl
                try simp only [Act.put, List.setIfInBounds_toArray, List.set_cons_zero, List.set_cons_succ]
                refine wpAnyH_take (i := 14) (oi := ⟨_, _, _, _, _, _⟩) (v := ?_) rfl (by kernel_rfl) (by kernel_rfl) (by kernel_rfl) (fun _ _ _ h => h) (Or.inl ⟨by rfl, ?_⟩) (by assumption) ?_
                rotate_left 1
                · intro W hSw
                  have hqb := HQb.out; have cb := hSw.a.string (P := Tryd.prog) 22 9 Tryd.underlying22 Tryd.underlying5 Tryd.underlying9; have c1 := hSw.b.string (P := Tryd.prog) 22 9 Tryd.underlying22 Tryd.underlying5 Tryd.underlying9
                  clear hSw
                  go_simp
                  try with_reducible rfl
                try simp only [Act.put, List.setIfInBounds_toArray, List.set_cons_zero, List.set_cons_succ]
                refine wpAnyH_done (by kernel_rfl) ?_ _
                refine NoPanic.normal ?_
                clear hHeld H9
                obtain ⟨w9, hw9⟩ : ∃ w9, w2.drew = w9 := ⟨_, rfl⟩
                have hb9 : Below w2.heap.size w2 w9 := hw9 ▸ (Below.refl _ w2).drew
                have HI9 := Lib.hid (HI2.out.adv hb9)
                have HQ9 := Lib.hid (HQ2.out.below hb9)
                have HO9 := Lib.hid (own_later HO3.out hb9)
                rw [hw9]
                clear hw9 hb9 HI2 HQ2 HO3
                cases q with
                | false =>
                  have hne : r ≠ T6 := by simpa using HQq.out
                  have HBad := Lib.hid (okRec_bad (s := sumL ds) HN.out HPP.out HO.out (fun r2 hr2 => by
                    rw [HR.out] at hr2
                    injection hr2 with hr2
                    rw [← hr2, HT6.out]; exact hne))
                  clear hne
                  go_wp2_with fail
                  go_ret2
                  exact HI9.out.stop HBad.out
                | true =>
                  have he : r = T6 := by simpa using HQq.out
                  have HGood := Lib.hid (okRec_good (s := sumL ds) HN.out HPP.out HO.out (by have := HL6.out; omega) HR.out (he.trans HT6.out.symm))
                  have hlr := recO_len HR.out
                  have HBr : Hid (Bts w9 w.heap.size 5 (.slice RA (r.length - 4) rc) (r.take (r.length - 4))) := Lib.hid ((Bts.of_own HO9.out _).upto (r.length - 4) (by omega))
                  have HSum := sum_rec_any w.heap.size ds r o RA rc w9 HR.out HBr
                  have hr4 : ((r.length : Int) - 4).toNat = r.length - 4 := by omega
                  have hr0 : (0 : Int) ≤ (r.length : Int) - 4 := by omega
                  have hr7 : (7 : Int) ≤ (r.length : Int) := by omega
                  have hr8 : (r.length : Int) ≤ 298 := by omega
                  have hr9 : (r.length : Int) - 4 ≤ (rc : Int) := by omega
                  have HLr := Lib.hid hlr
                  have HRN : Hid (r.length = N + 6) := Lib.hid (by rw [he, ← HT6.out, List.length_take]; have := HL6.out; omega)
                  clear he hlr
                  go_wp2_with fail
                  refine HSum.out.mono ?_
                  rintro e w10 ⟨rfl, hw10⟩
                  subst hw10
                  obtain ⟨z0, z1, z2, z3, z4, z5, z6, z7, z8⟩ := HQ9.out.at_.at0
                  have HSrc := Lib.hid (src_op w9 o (.slice OA o.val.length oc))
                  have hps : ps.length < 4096 := by omega
                  have HPs := Lib.hid hps
                  unfold opc at HSrc
                  have HRl := Lib.hid hr4
                  clear hps hr0 hr4 hr7 hr8 hr9
                  go_wp2_with (at_builtin; refine wpList_append_src _ rfl _ _ _ rfl w.heap.size 43 i0 _ 9 96 Tryd.underlying25 hi0 hz0 hz1 hz2 rfl (by decide) _ ps.length (ocs ps) rfl (HI9.out.out.row.alloc _) (some ⟨w9.heap.size, 0, none⟩) 1 1 (opcs o (.slice OA o.val.length oc)) rfl HSrc.out (opcs_one _ _ _ _) (by have := HPs.out; unfold maxLen; omega) (by have := HPs.out; omega) (by have := HI9.out.below.size; simp; omega) ?_; intro v8 w8 hown8 hg8 hat8)
                  have hHV9 := HQ9.out.vals (o, .slice OA o.val.length oc) (by simp)
                  have HSt := Lib.hid (RsI.step (HI9.out.adv ((Below.refl _ _).alloc (Nat.le_refl _) _)) HGood.out (by have := HPs.out; omega) HL.out (hHV9.alloc _) hg8 hown8)
                  clear hown8 hg8 hat8 hHV9 z0 z1 z2 z3 z4 z5 z6 z7 z8
                  go_roundw
                  case rel => exact ⟨_, _, _, _, _, rfl, rfl, by rw [List.length_append, HRN.out]; go_num, HSt.out⟩
                  case measure =>
                    have := HLL.out
                    simp [intOf]; omega
            · have h1B : ((qs.length : Int) != 1) = true := by rw [bne_iff_ne]; omega
              have HS := Lib.hid (HI1.out.stop (okRec_not1 HN.out HPP.out (by omega)))
              clear hmq hql hql2 hb1 hq
              go_wp2_with fail
              go_ret2
              exact HS.out

end Go.Proofs.YtffigmciclopdaaDoor

/- The walk of looks (layer 9). -/
import Derived.Test.YtjjhndhigkhkpaaDoE
import Derived.Test.YtjjhndhigkhkpaaRangeB
import Derived.Deep.RegionHeld3
namespace Go.Proofs.Ytjjhndhigkhkpaa
open Go Go.RowKit
attribute [local go_sem ↓] Go.wp_at_zero Go.wp_at_succ
attribute [local go_sem] Oper.semAt_some

theorem keepsOthers_only {S : Nat → Prop} {w w' : World} (h : Only S w w') (hS : ∀ k, S k → ∃ cur e r, w.heap[k]? = some (.cells cur e r)) : KeepsOthers w w' :=
  ⟨h.size, fun k o hk ho => by
    by_cases hs : S k
    · obtain ⟨cur, e, r, hc⟩ := hS k hs
      rw [hc] at hk
      injection hk with hk
      subst hk
      cases ho
    · rw [h.block k (Array.getElem?_eq_some_iff.1 hk).1 hs]; exact hk⟩

set_option maxRecDepth 100000 in
set_option maxHeartbeats 2000000 in
theorem looks_true (B b : Nat) (lv lw gw : Value) (ps : List (Ent × Value)) (rs : List RE) (w : World) (hl : LogRep w B b lv ps) (hr : RRep w B lw gw rs) (hs : Sync ps rs) (hn : rs.length ≤ 1000) :
    Calls Try.prog 19 #[.pointer (some ⟨b, 0, none⟩), .agg #[lw, gw]] w fun e w' => e = .returned (.bool true) ∧ Below w.heap.size w w' := by
  obtain ⟨LA, lc, rfl, _, _⟩ := own_form hr.row
  obtain ⟨GA, gc, rfl, _, _⟩ := own_form hr.gone
  have HL := Lib.hid hl
  have HR := Lib.hid hr
  have HS := Lib.hid hs
  have hn1 : (rs.length : Int) ≤ 1000 := by omega
  have HN := Lib.hid hn
  clear hl hr hs hn
  refine (callsIn_wide (n := 9)).1 ?_
  refine callsIn_of_wp_marks Try.func19 rfl trivial ?_ rfl
  simp only [Try.ntmps19, List.size_toArray, List.length_cons, List.length_nil, Nat.reduceAdd, Nat.reduceSub, Array.replicate_succ, Array.replicate_zero, List.push_toArray, List.append_toArray, List.nil_append, List.cons_append]
  refine wpIn_wide.2 ?_
  go_upto_region 1 with fail
  obtain ⟨wa, hwa⟩ : ∃ wa, (w.alloc (.cells #[.slice LA rs.length lc, .slice GA rs.length gc] 49)).alloc (.cells #[.bool false] 4) = wa := ⟨_, rfl⟩
  have hba : Below w.heap.size w wa := hwa ▸ ((Below.refl _ _).alloc (Nat.le_refl _) _).alloc (by simp) _
  have HBx : Hid (Blk wa w.heap.size 49 #[.slice LA rs.length lc, .slice GA rs.length gc]) := Lib.hid (hwa ▸ (Blk.new _ _ _).alloc _)
  have HBr : Hid (Blk wa (w.heap.size + 1) 4 #[.bool false]) := Lib.hid (hwa ▸ Blk.new2 _ _ _ _)
  have HLa := Lib.hid (HL.out.below hba)
  have HRa := Lib.hid (HR.out.below hba)
  have HBa := Lib.hid hba
  rw [hwa]
  have x0 : wa.cell? ⟨w.heap.size, 0, none⟩ = some (.slice LA rs.length lc) := HBx.out.cell 0 _ rfl
  have x1 : wa.cell? ⟨w.heap.size, 1, none⟩ = some (.slice GA rs.length gc) := HBx.out.cell 1 _ rfl
  have HVl := Lib.hid (HS.out.vals HR.out)
  clear hwa hba
  refine wp_region_noPanic ?_
  go_region_held_law (fun w' => w'.cell? ⟨w.heap.size, 0, none⟩ = some (.slice LA rs.length lc) ∧ w'.cell? ⟨w.heap.size, 1, none⟩ = some (.slice GA rs.length gc)) (first | with_reducible exact ⟨cell_drew x0, cell_drew x1⟩ | with_reducible exact ⟨x0, x1⟩ | exact ⟨x0, x1⟩)
    (first
      | (go_at_call 13
         refine (logLen_any B b lv ps _ HLa.out.drew).mono ?_
         rw [HS.out.len]
         rintro e w' ⟨rfl, rfl⟩)
      | (go_at_call 17
         refine (logLive_any B b lv ps _ HLa.out.drew).mono ?_
         rw [HS.out.live]
         rintro e w' ⟨rfl, rfl⟩)
      | (go_at_call 40
         refine (refLive_any B _ _ rs _ HRa.out.drew).mono ?_
         rintro e w4 ⟨rfl, hb4⟩
         have hb4' := below_drew hb4
         have HL4 := Lib.hid (HLa.out.below hb4')
         have HR4 := Lib.hid (HRa.out.below hb4')
         have HBx := Lib.hid (HBx.out.below hb4')
         have HBr := Lib.hid (HBr.out.below hb4')
         have HBa := Lib.hid (HBa.out.trans (hb4'.mono HBa.out.size))
         have x0 : w4.cell? ⟨w.heap.size, 0, none⟩ = some (.slice LA rs.length lc) := HBx.out.cell 0 _ rfl
         have x1 : w4.cell? ⟨w.heap.size, 1, none⟩ = some (.slice GA rs.length gc) := HBx.out.cell 1 _ rfl
         clear hb4 hb4')
      | (go_at_call 20
         refine (refSlots_any B _ _ rs _ HR4.out).mono ?_
         rintro e w5 ⟨sv, rfl, hsv, hb5⟩
         obtain ⟨SA, sc, rfl, _, _⟩ := own_form hsv
         have HSv := Lib.hid (ownsRow_base hsv (Nat.zero_le _))
         have HL5 := Lib.hid (HL4.out.below hb5)
         have HR5 := Lib.hid (HR4.out.below hb5)
         have HBx := Lib.hid (HBx.out.below hb5)
         have HBr := Lib.hid (HBr.out.below hb5)
         have HBa := Lib.hid (HBa.out.trans (hb5.mono HBa.out.size))
         have x0 : w5.cell? ⟨w.heap.size, 0, none⟩ = some (.slice LA rs.length lc) := HBx.out.cell 0 _ rfl
         have x1 : w5.cell? ⟨w.heap.size, 1, none⟩ = some (.slice GA rs.length gc) := HBx.out.cell 1 _ rfl
         clear hsv hb5)
      | (go_at_call 27
         refine (slots_true B b lv _ ps (slotsR rs rs.length) _ HL5.out HSv.out (by rw [HS.out.slots, HS.out.len]) (fun p hp => by have := HVl.out p hp; omega)).mono ?_
         rintro e w6 ⟨rfl, hb6⟩
         have HL6 := Lib.hid (HL5.out.below hb6)
         have HR6 := Lib.hid (HR5.out.below hb6)
         have HBx := Lib.hid (HBx.out.below hb6)
         have HBr := Lib.hid (HBr.out.below hb6)
         have HBa := Lib.hid (HBa.out.trans (hb6.mono HBa.out.size))
         have x0 : w6.cell? ⟨w.heap.size, 0, none⟩ = some (.slice LA rs.length lc) := HBx.out.cell 0 _ rfl
         have x1 : w6.cell? ⟨w.heap.size, 1, none⟩ = some (.slice GA rs.length gc) := HBx.out.cell 1 _ rfl
         clear hb6))
  refine NoPanic.normal ?_
  go_wp2_with fail
  refine (logAll_any B b lv ps _ HL6.out).mono ?_
  rintro e w7 ⟨rfl, ⟨av, hab, hav⟩, hb7⟩
  have HAb := Lib.hid hab
  have HAv := Lib.hid hav
  have HL7 := Lib.hid (HL6.out.below hb7)
  have HR7 := Lib.hid (HR6.out.below hb7)
  have HBx7 := Lib.hid (HBx.out.below hb7)
  have HBr7 := Lib.hid (HBr.out.below hb7)
  have HBa7 := Lib.hid (HBa.out.trans (hb7.mono HBa.out.size))
  clear hab hav hb7 x0 x1
  go_wp2_with fail
  refine (wpIn_wide (n := 9)).1 ?_
  refine range_law2 rfl (by omega) (gf := 42) (lb := #[.pointer (some ⟨w6.heap.size, 0, none⟩)]) rfl trivial (enters_of Try.func42 (by kernel_rfl) rfl) (itemPx_put _ ps)
    (log_stops 8 (by omega) B _ av ps w7 HAb.out (ownsRow_base HAv.out (Nat.zero_le _)) HL7.out.vals (fun p hp => by have := HVl.out p hp; omega) HL7.out.len) belowK_t (belowK_b (Nat.le_refl _)) (Below.refl _ _) (fun _ => rfl)
    (fun _ W => Below w7.heap.size w7 W) (fun _ _ _ => False) (ownFrom_below (Nat.le_refl _) (Nat.le_refl _)) (fun _ _ _ _ _ hs _ _ => hs) (Below.refl _ _) ?a₁ (fun x => .cells #[.string x.2.1.key, x.2.2, .int .u64 x.2.1.dl, .int .u64 x.2.1.birth] 31) ?pa (fun W o h => (Below.refl _ W).alloc h o) ?assign ?body (fun _ => rfl) ?done ?stop
  case a₁ =>
    exact fun x W0 => { tmps := #[.pointer (some ⟨b, 0, none⟩), .agg #[.slice LA rs.length lc, .slice GA rs.length gc], undef, .pointer (some ⟨w.heap.size, 0, none⟩), .pointer (some ⟨w.heap.size + 1, 0, none⟩), .int .u32 x.1, .pointer (some ⟨W0.heap.size, 0, none⟩), .pointer (some ⟨b, 0, none⟩), .int .i64 rs.length, .pointer (some ⟨w.heap.size, 0, none⟩), .slice LA rs.length lc, .int .i64 rs.length, .bool false, .bool false, .pointer (some ⟨b, 0, none⟩), .int .i64 (liveR rs), .agg #[.slice LA rs.length lc, .slice GA rs.length gc], .int .i64 (liveR rs), .bool false, .bool false, .bool false, .pointer (some ⟨b, 0, none⟩), .agg #[.slice LA rs.length lc, .slice GA rs.length gc], .slice SA (slotsR rs rs.length).length sc, .bool true, .bool false, .bool false, .pointer (some ⟨b, 0, none⟩), .func (.func 42) #[] #[.pointer (some ⟨w6.heap.size, 0, none⟩)], .int .u32 x.1, .agg #[.string x.2.1.key, x.2.2, .int .u64 x.2.1.dl, .int .u64 x.2.1.birth], undef, undef, undef, undef, undef, undef, undef, undef, undef, undef], defers := [] }
  case pa => exact fun pre x W o h => ⟨h.1.alloc o, h.2⟩
  case assign =>
    intro l pre x W K hpx hK
    obtain ⟨s, en, v⟩ := x
    obtain ⟨A, c, hv, _, _⟩ := own_form hpx.1
    dsimp only at hv
    subst hv
    simp [Item.enc]
    gi_wp2
    simpa using hK
  case body =>
    rintro l pre ⟨s, en, v⟩ W0 W hW0 hbx hB hpx hlt
    obtain ⟨hown, hpre⟩ := hpx
    dsimp only at hown hpre hbx ⊢
    obtain ⟨A, c, hv, _, _⟩ := own_form hown
    subst hv
    obtain ⟨tl, hpr⟩ := hpre
    have hmem : (s, en) ∈ itemsTo ps ps.length := by
      rw [← hpr]
      simp [Item.bare]
    unfold itemsTo at hmem
    obtain ⟨j, hj, hit⟩ := List.mem_filterMap.1 hmem
    unfold itemAt at hit
    cases hpj : ps[j]? with
    | none => rw [hpj] at hit; cases hit
    | some p =>
      rw [hpj] at hit
      dsimp only at hit
      by_cases hbz : p.1.birth = 0
      · rw [if_pos hbz] at hit; cases hit
      · rw [if_neg hbz] at hit
        injection hit with hit
        injection hit with h1 h2
        subst h1 h2
        obtain ⟨hjl, _⟩ := List.getElem?_eq_some_iff.1 hpj
        obtain ⟨r, hrj⟩ : ∃ r, rs[j]? = some r := ⟨_, List.getElem?_eq_getElem (by rw [← HS.out.len]; exact hjl)⟩
        have hsy := HS.out.at_ j p r hpj hrj
        unfold SyncAt at hsy
        split at hsy
        · exact absurd (by rw [hsy]; rfl) hbz
        · obtain ⟨hee, _⟩ := hsy
          have HRW := Lib.hid (HR7.out.below hB)
          obtain ⟨g, cap, _, _, e1, _, hg, _, hc, _, c0, c1, c2, c3, _⟩ := HRW.out.at_ hrj
          injection e1 with e1 _ e3
          subst e1 e3
          obtain ⟨RA, rc, hrv, _, _⟩ := own_form (HRW.out.vals r (List.mem_of_getElem? hrj)).1
          have hrl := (HRW.out.vals r (List.mem_of_getElem? hrj)).2
          have HRB := Lib.hid (HRW.out.bts (List.mem_of_getElem? hrj) B)
          rw [hrv] at c1
          have hbk : Blk W W0.heap.size 31 #[.string p.1.key, .slice A p.1.val.length c, .int .u64 p.1.dl, .int .u64 p.1.birth] := hbx
          have b0 := hbk.cell 0 _ rfl
          have b1 := hbk.cell 1 _ rfl
          have b2 := hbk.cell 2 _ rfl
          have b3 := hbk.cell 3 _ rfl
          have HBk := Lib.hid hbk
          have x0 := (HBx7.out.below hB).cell 0 _ rfl
          have hjI : (j : Int) < (rs.length : Int) := by have := HS.out.len; omega
          have hj0 : (0 : Int) ≤ (j : Int) := Int.natCast_nonneg _
          have hcI : (rs.length : Int) ≤ (lc : Int) := by omega
          have HOw : Hid (W.ownsRow w7.heap.size 5 1 (.slice A p.1.val.length c) p.1.val.length (bcells p.1.val)) := Lib.hid hown
          have hpvl := HVl.out p (List.mem_of_getElem? hpj)
          have HPv : Hid (p.1.val.length ≤ 1000000000) := Lib.hid (by omega)
          have HBt : Hid (Bts W.drew B 5 (.slice A p.1.val.length c) p.1.val) := Lib.hid ((Bts.of_own hown B).drew)
          have HRv : Hid (Bts W.drew B 5 (.slice RA r.e.val.length rc) r.e.val) := Lib.hid ((hrv ▸ HRB.out : Bts W B 5 (.slice RA r.e.val.length rc) r.e.val).drew)
          have HEq : Hid (eqE p.1 r.e = true) := Lib.hid (by rw [hee]; exact eqE_self _)
          have HBW := Lib.hid hB
          have hmix : Try.prog.follows .mixedOrders = true := by kernel_rfl
          clear hown hbx hbk hB hpr hee
          clear hmem
          have hf1 : Fence.wide.fn 22 := trivial
          have hf2 : Fence.wide.fn 23 := trivial
          gi_wp2_with fail
          gi_region_with_o (first
            | (gi_at_call 22
               refine (CallsIn.inRound l (callsIn_wide.2 (refEqual_any B B p.1 r.e _ _ _ HBt.out HRv.out))).mono ?_
               rw [HEq.out]
               rintro e w9 ⟨rfl, hb9⟩
               have HB9 : Hid (Below W.heap.size W w9) := Lib.hid (below_drew hb9)
               clear hb9))
          all_goals
            have HBk9 := Lib.hid (HBk.out.below HB9.out)
            have HOw9 : Hid (w9.ownsRow w7.heap.size 5 1 (.slice A p.1.val.length c) p.1.val.length (bcells p.1.val)) := Lib.hid (ownsRow_only (S := fun _ => False) HOw.out (Only.of_below HB9.out) (fun _ _ h => h))
            have HBW9 := Lib.hid (HBW.out.trans (HB9.out.mono HBW.out.size))
            clear c0 c1 c2 c3 b0 b1 b2 b3 x0 hjI hj0 hcI
            have b0 := HBk9.out.cell 0 _ rfl
            have b1 := HBk9.out.cell 1 _ rfl
            have b2 := HBk9.out.cell 2 _ rfl
            have b3 := HBk9.out.cell 3 _ rfl
            gi_wp2_with fail
            refine (CallsIn.inRound l (callsIn_wide.2 (spoil_any w7.heap.size _ _ p.1.val _ _ _ HOw9.out HPv.out))).mono ?_
            rintro e w10 ⟨⟨u, rfl⟩, ho10⟩
            have HK := Lib.hid ((keepsOthers_only (S := fun _ => False) (Only.of_below HB9.out) (fun _ h => h.elim)).trans (keepsOthers_only ho10 (fun k hk => by obtain ⟨_, cur, h2⟩ := row_block HOw9.out hk; exact ⟨_, _, _, h2⟩)))
            have HBl := Lib.hid ((HB9.out.mono HBW.out.size).trans (ho10.below (fun i hi _ e => by have := (row_block HOw9.out e).1; omega) HBW9.out.size))
            clear ho10 b0 b1 b2 b3
            gi_wp2_with fail
            exact ⟨HK.out.from _, HBl.out, HBW.out.trans HBl.out⟩
  case done =>
    rintro D ys W hD hS hB hK
    have hbr := HBr7.out.below hB
    have r0 := hbr.cell 0 _ rfl
    have r4 := hbr.frozen
    have HK := Lib.hid hK
    have HBW := Lib.hid (HBa7.out.trans (hB.mono HBa7.out.size))
    have hz := HBr7.out.lt
    clear hK
    go_wp2_with fail
    have hK2 := (KeepsOthers.setCell W ⟨w.heap.size + 1, 0, none⟩ (.bool true)).same D _ HK.out rfl
    refine ⟨by simp, .inl ⟨_, _, rfl, run_takeDeferred hK2, ?_⟩⟩
    have hr : ((W.setCell ⟨w.heap.size + 1, 0, none⟩ (.bool true)).putObj D (.deferred none)).cell? ⟨w.heap.size + 1, 0, none⟩ = some (.bool true) :=
      cell_kept ((hbr.set_ 0 (.bool true)).cell 0 _ rfl) (grownBy_putObj' _ D (.deferred none)) (fun r e => by cases e; exact ⟨_, hK2, rfl⟩)
    refine ⟨_, by simp [results, Try.results19, go_sem, hr], rfl, ?_⟩
    exact (HBW.out.setCell (p := ⟨w.heap.size + 1, 0, none⟩) (by simp) _).trans (belowK_b (w := w) (Nat.le_refl _) _ D _ _ (by have := HBa7.out.size; omega) hK2 rfl rfl)
  case stop =>
    rintro D c pre W _ _ h _
    exact h.elim

end Go.Proofs.Ytjjhndhigkhkpaa

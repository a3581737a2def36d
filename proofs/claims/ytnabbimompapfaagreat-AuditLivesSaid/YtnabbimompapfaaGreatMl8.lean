/- AudQ, AudQB, AudSA, AudSB, AudJA -/
import Derived.Test.YtnabbimompapfaaGreatMl7
import Derived.Deep.DeepCutAuto
import Derived.Deep.Cut
import Derived.Test.YtnabbimompapfaaGreatMl1
import Derived.Deep.RegionHeld3
import Derived.BigQuiet
import Derived.Deep.QuietTactic
namespace Go.Proofs.YtnabbimompapfaaGreat
open Go Go.RowKit
theorem after_filter {L : List EntV} {b t : Int} : afterP (L.filter fun e => !dueP e.dl t) b t = afterP L b t := by
 unfold afterP
 induction L with
 |nil => rfl
 |cons e L ih =>
  by_cases h : dueP e.dl t = true
  ·rw [List.filter_cons_of_neg (by rw [h]; decide), List.find?_cons_of_neg (by rw [h]; simp), ih]
  ·have h2 : dueP e.dl t = false := by simpa using h
   rw [List.filter_cons_of_pos (by rw [h2]; rfl)]
   by_cases hb : b < e.birth
   ·rw [List.find?_cons_of_pos (by rw [h2]; simp [hb]), List.find?_cons_of_pos (by rw [h2]; simp [hb])]
   ·rw [List.find?_cons_of_neg (by simp [hb]), List.find?_cons_of_neg (by simp [hb]), ih]
theorem freeP_le (pl : List (Option Int)) (h : pl.length = 64) : freeP pl ≤ 64 := by
 unfold freeP
 cases hf : pl.findIdx? fun x => x.isNone with
 |none => exact zN _
 |some i =>
  obtain ⟨hl, _⟩ := List.findIdx?_eq_some_iff_getElem.1 hf
  show i ≤ 64; omega
theorem right_cases {s : PJ} {o : OpV} {t : Int} (hk : 1 ≤ o.kind ∧ o.kind ≤ 14) (hr : refusedP o (rightP s o t) = false) (hp : s.pl.length = 64) :
  (¬ (o.kind = 11 ∨ o.kind = 12 ∨ o.kind = 13 ∨ o.kind = 14) → rightP s o t = 0) ∧
  (o.kind = 1 ∨ o.kind = 2 → keyOK o.key = true ∧ o.val.length ≤ 65536) ∧
  (o.kind = 11 → rightP s o t = 0 → freeP s.pl < 64) ∧
  (o.kind = 12 → rightP s o t = 0 → ∃ b x, openP s.pl o.cursor = some b ∧ afterP s.L b t = some x) ∧
  (o.kind = 13 ∨ o.kind = 14 → rightP s o t = 0 → (openP s.pl o.cursor).isSome = true) := by
 have h0 : ¬ (o.kind = 11 ∨ o.kind = 12 ∨ o.kind = 13 ∨ o.kind = 14) → rightP s o t = 0 := fun hc => by
  by_cases h8 : o.kind ≤ 6 ∨ o.kind = 8
  ·unfold refusedP at hr
   rw [decide_eq_false_iff_not] at hr
   by_cases he : rightP s o t = 0
   ·exact he
   ·exact absurd ⟨he, by omega⟩ hr
  ·unfold rightP
   rw [if_neg (by omega), if_neg (by omega), if_neg (by omega), if_neg (by omega)]
 refine ⟨h0, fun h12 => ?_, fun h11 he => ?_, fun h12 he => ?_, fun h13 he => ?_⟩
 ·have h := h0 (by omega)
  unfold rightP at h
  rw [if_pos (by omega)] at h
  split at h
  ·omega
  ·rename_i h1
   split at h
   ·omega
   ·rename_i h2
    refine ⟨?_, by omega⟩
    cases hq : keyOK o.key with
    |true => rfl
    |false => exact absurd (.inl hq) h1
 ·unfold rightP at he
  rw [if_neg (by omega), if_neg (by omega), if_pos h11] at he
  split at he
  ·omega
  ·have := freeP_le s.pl hp; omega
 ·unfold rightP at he
  rw [if_neg (by omega), if_neg (by omega), if_neg (by omega), if_pos (.inl h12)] at he
  cases ho : openP s.pl o.cursor with
  |none => rw [ho] at he; dsimp only at he; omega
  |some b =>
   rw [ho] at he
   dsimp only at he
   cases ha : afterP s.L b t with
   |none => rw [ha, if_pos ⟨h12, rfl⟩] at he; omega
   |some x => exact ⟨b, x, rfl, ha⟩
 ·unfold rightP at he
  rw [if_neg (by omega), if_neg (by omega), if_neg (by omega), if_pos (by omega)] at he
  cases ho : openP s.pl o.cursor with
  |none => rw [ho] at he; dsimp only at he; omega
  |some b => rfl
theorem effOk_of {s : PJ} {o : OpV} {t : Int} (hk : 1 ≤ o.kind ∧ o.kind ≤ 14) (hr : refusedP o (rightP s o t) = false) (hp : s.pl.length = 64) : EffOk (expireP s t) o (rightP s o t) := by
 obtain ⟨h0, _, h11, h12, h13⟩ := right_cases hk hr hp
 refine ⟨h0, h11, fun h he => ?_, h13⟩
 obtain ⟨b, x, h1, h2⟩ := h12 h he
 exact ⟨b, x, h1, by show afterP (s.L.filter fun e => !dueP e.dl t) b t = _; rw [after_filter]; exact h2⟩
theorem effect_inv {N : Nat} {s : PJ} {o : OpV} {t : Int} (hi : PInv N s) (ht : 0 ≤ t ∧ t ≤ neverT) (htt : 0 ≤ o.ttl) (hk : 1 ≤ o.kind ∧ o.kind ≤ 14) (hr : refusedP o (rightP s o t) = false) : PInv (N + 1) (effP (expireP s t) o (rightP s o t)) :=
 (hi.expire t ht).effP o _ htt (right_cases hk hr hi.pls).2.1
theorem jstep_inv {N : Nat} {s s2 : PJ} {r : ResV} (hi : PInv N s) (htk : 0 ≤ r.op.ticks) (htt : 0 ≤ r.op.ttl) (h : jstep s r = .ok s2) : PInv (N + 1) s2 := by
 have hend : ∀ {s1 : PJ} {w : WantV}, endP r s1 w = .ok s2 → s1 = s2 := fun {s1 w} h => by
  unfold endP at h
  split at h
  ·cases h
  ·split at h
   ·cases h
   ·split at h
    ·cases h
    ·injection h
 unfold jstep at h
 split at h
 ·cases h
 ·rename_i h1
  have he : r.err = rightP s r.op (addP s.now r.op.ticks) := by
   by_cases e : r.err = rightP s r.op (addP s.now r.op.ticks)
   ·exact e
   ·exact absurd (.inr (.inr e)) h1
  split at h
  ·split at h
   ·cases h
   ·split at h
    ·cases h
    ·split at h
     ·cases h
     ·rw [← hend h]; exact hi.more
  ·rename_i hr
   have hr2 : refusedP r.op (rightP s r.op (addP s.now r.op.ticks)) = false := by rw [← he]; simpa using hr
   split at h
   ·cases h
   ·split at h
    ·cases h
    ·rename_i s1 w hev
     rw [← hend h]
     unfold eventsP at hev
     split at hev
     ·cases hev
     ·split at hev
      ·cases hev
      ·split at hev
       ·cases hev
       ·split at hev
        ·cases hev
        ·rename_i s3 hevi
         injection hev with hev
         injection hev with hev _
         subst hev
         rw [he] at hevi
         exact evictP_inv _ _ _ _ (effect_inv hi (addP_range hi.now.1 htk) htt (by omega) hr2) hevi
end Go.Proofs.YtnabbimompapfaaGreat
namespace Go.Proofs.YtnabbimompapfaaGreat
open Go Go.RowKit
theorem evictP_err (o : OpV) : ∀ (l : List EvV) (s : PJ) (x : Int), evictP o l s = .error x → x = 2 ∨ x = 4
 |[], s, x, h => by cases h
 |v :: l, s, x, h => by
  rw [evictP] at h
  cases hf : findP s.L v.key with
  |none => rw [hf] at h; injection h with h; exact .inl h.symm
  |some y =>
   rw [hf] at h
   dsimp only at h
   by_cases h1 : v ≠ eventP 2 y s.now
   ·rw [if_pos h1] at h; injection h with h; exact .inl h.symm
   ·rw [if_neg h1] at h
    by_cases h2 : withinP s ∨ ((o.kind = 1 ∨ o.kind = 2) ∧ y.key = o.key)
    ·rw [if_pos h2] at h; injection h with h; exact .inr h.symm
    ·rw [if_neg h2] at h
     by_cases h3 : s.cfg.prot = 0 ∧ s.U.head? ≠ some y.birth
     ·rw [if_pos h3] at h; injection h with h; exact .inr h.symm
     ·rw [if_neg h3] at h
      exact evictP_err o l _ x h
theorem setP_now (s : PJ) (o : OpV) (dl : Int) : (setP s o dl).now = s.now := by
 unfold setP
 cases findP s.L o.key <;> rfl
theorem effA_now (s : PJ) (o : OpV) : (effA s o).now = s.now := by
 unfold effA
 split
 ·exact setP_now _ _ _
 ·split
  ·exact setP_now _ _ _
  ·split
   ·rfl
   ·split
    ·rfl
    ·split
     ·rfl
     ·split
      ·rfl
      ·split
       ·rfl
       ·split <;> rfl
theorem effB_now (s : PJ) (o : OpV) : (effB s o).now = s.now := by
 unfold effB
 split
 ·rfl
 ·split
  ·split
   ·rfl
   ·split <;> rfl
  ·split
   ·rfl
   ·split <;> rfl
theorem effP_now (s : PJ) (o : OpV) (e : Int) : (effP s o e).now = s.now := by
 unfold effP
 split
 ·rw [effB_now, effA_now]
 ·exact effA_now _ _
section
variable {w W W2 : World} {B g : Nat} {vL vU : Value} {pv : Nat → Int} {s : PJ} {ps : List (EntV × Value)}
theorem KRep.setNow (h : KRep w B g vL vU pv s ps) (t : Int) : KRep (w.setCell ⟨g, 5, none⟩ (.int .u64 t)) B g vL vU pv { s with now := t } ps := by
 refine h.set_ 5 _ (fun j hj => ?_) h.L h.U h.map h.vals h.place
 unfold kcell
 by_cases e : j = 5
 ·subst e; rfl
 ·by_cases h0 : j = 0
  ·subst h0; rfl
  ·by_cases h1 : j = 1
   ·subst h1; rfl
   ·by_cases h2 : j = 2
    ·subst h2; rfl
    ·by_cases h3 : j = 3
     ·subst h3; rfl
     ·by_cases h4 : j = 4
      ·subst h4; rfl
      ·simp only [if_neg h0, if_neg h1, if_neg h2, if_neg h3, if_neg h4, if_neg e]
theorem KRep.other (h : KRep W B g vL vU pv s ps) {gw : Nat} {cs : Array Value} (hb : Blk W gw 46 cs) (ho : Only (fun k => k = gw) W W2) (hB : B ≤ gw) : KRep W2 B g vL vU pv s ps := by
 obtain ⟨c, h1, h2⟩ := h.blk
 have hne : ¬ g = gw := fun e => by subst e; exact hb.ne_ h1 (by decide) rfl
 exact ⟨⟨c, h1.only ho hne, h2⟩, ownsRow_only h.L ho (fun k hk e => by subst e; exact blk_differs hb h.L (by decide) hk), ownsRow_only h.U ho (fun k hk e => by subst e; exact blk_differs hb h.U (by decide) hk), h.map, fun p hp => (h.vals p hp).keep (KeepB.of_blk hb (by decide) hB ho), h.place, h.base⟩
end
theorem EvsAt.drop {w : World} {B q off n cap : Nat} {xs : List (EvV × Value)} (h : EvsAt w B (.slice (some ⟨q, off, none⟩) n cap) xs) (k : Nat) (hk : k ≤ xs.length) : EvsAt w B (.slice (if cap = k then some ⟨q, off, none⟩ else some ⟨q, off + k * 6, none⟩) (n - k) (cap - k)) (xs.drop k) := by
 obtain ⟨⟨A', cap', e, h1, h2, h3, h4⟩, h5⟩ := h
 injection e with e1 e2 e3
 subst e1 e3
 refine ⟨⟨_, cap - k, by rw [List.length_drop, ← e2], by rw [List.length_drop]; omega, by omega, (fun h => by split at h <;> cases h), fun hp => ?_⟩, fun p hp => h5 p (List.mem_of_mem_drop hp)⟩
 rw [List.length_drop] at hp
 obtain ⟨b, off', hA, hlt, hc⟩ := h4 (by omega)
 cases hA
 refine ⟨q, off + k * 6, by rw [if_neg (by omega)], hlt, fun i p hi j u hu => ?_⟩
 rw [List.getElem?_drop] at hi
 have := hc (k + i) p hi j u hu
 rw [show off + ((k + i) * 6 + j) = off + k * 6 + (i * 6 + j) by omega] at this
 exact this
theorem EvsAt.dropA {w : World} {B n cap : Nat} {A : Option Addr} {xs : List (EvV × Value)} (h : EvsAt w B (.slice A n cap) xs) (k : Nat) (hk : k ≤ xs.length) : EvsAt w B (.slice (if cap = k then A else Option.map (fun x => x.add (k * 6)) A) (n - k) (cap - k)) (xs.drop k) := by
 obtain ⟨⟨A', cap', e, h1, h2, h3, h4⟩, h5⟩ := h
 injection e with e1 e2 e3
 subst e1 e3
 refine ⟨⟨_, cap - k, by rw [List.length_drop, ← e2], by rw [List.length_drop]; omega, by omega, (fun h => ?_), fun hp => ?_⟩, fun p hp => h5 p (List.mem_of_mem_drop hp)⟩
 ·rw [List.length_drop]
  split at h
  ·have := h3 h; omega
  ·cases A with
   |none => have := h3 rfl; omega
   |some a => cases h
 ·rw [List.length_drop] at hp
  obtain ⟨b, off', hA, hlt, hc⟩ := h4 (by omega)
  cases hA
  refine ⟨b, off' + k * 6, by rw [if_neg (by omega), Option.map_some, add_plain], hlt, fun i p hi j u hu => ?_⟩
  rw [List.getElem?_drop] at hi
  have := hc (k + i) p hi j u hu
  rw [show off' + ((k + i) * 6 + j) = off' + k * 6 + (i * 6 + j) by omega] at this
  exact this
end Go.Proofs.YtnabbimompapfaaGreat
namespace Go.Proofs.YtnabbimompapfaaGreat
open Go Go.RowKit
theorem KRep.lenP {w : World} {B g : Nat} {vL vU : Value} {pv : Nat → Int} {s : PJ} {ps : List (EntV × Value)} (h : KRep w B g vL vU pv s ps) {N : Nat} (hi : PInv N s) : ps.length ≤ N := by
 have := hi.lenL
 rwa [← h.map, List.length_map] at this
theorem op_cells {W : World} {g : Nat} {a : OpV} {V : Value} (h : Blk W g 43 (opc a V)) : W.cell? ⟨g, 0, none⟩ = some (.int .i64 a.kind) ∧ W.cell? ⟨g, 1, none⟩ = some (.int .u64 a.ticks) ∧ W.cell? ⟨g, 2, none⟩ = some (.string a.key) ∧ W.cell? ⟨g, 3, none⟩ = some (V) ∧ W.cell? ⟨g, 4, none⟩ = some (.int .u64 a.ttl) ∧ W.cell? ⟨g, 5, none⟩ = some (.int .i64 a.count) ∧ W.cell? ⟨g, 6, none⟩ = some (.int .i64 a.bytes) ∧ W.cell? ⟨g, 7, none⟩ = some (.int .i64 a.cursor) ∧ W.cell? ⟨g, 8, none⟩ = some (.int .u64 a.birth) :=
 ⟨h.cell 0 _ rfl, h.cell 1 _ rfl, h.cell 2 _ rfl, h.cell 3 _ rfl, h.cell 4 _ rfl, h.cell 5 _ rfl, h.cell 6 _ rfl, h.cell 7 _ rfl, h.cell 8 _ rfl⟩
def resc (r : ResV) (V1 V2 V3 V4 : Value) : Array Value :=
 #[.int .i64 r.op.kind, .int .u64 r.op.ticks, .string r.op.key, V1, .int .u64 r.op.ttl, .int .i64 r.op.count, .int .i64 r.op.bytes, .int .i64 r.op.cursor, .int .u64 r.op.birth, .int .u64 r.at_, .int .i64 r.err, .bool r.hit, V2, .string r.ent.key, V3, .int .u64 r.ent.dl, .int .u64 r.ent.birth, .int .i64 r.cursor, V4, .int .i64 r.len, .int .i64 r.cost]
def resv (r : ResV) (V1 V2 V3 V4 : Value) : Value := .agg (resc r V1 V2 V3 V4)
structure ResAt (w : World) (B : Nat) (r : ResV) (V1 V2 V3 V4 : Value) (xs : List (EvV × Value)) : Prop where
 a1 : Bts w B 5 V1 r.op.val
 a2 : Bts w B 5 V2 r.val
 a3 : Bts w B 5 V3 r.ent.val
 a4 : EvsAt w B V4 xs
 evs : xs.map Prod.fst = r.evs
theorem ResAt.keep {w W : World} {B : Nat} {r : ResV} {V1 V2 V3 V4 : Value} {xs : List (EvV × Value)} (h : ResAt w B r V1 V2 V3 V4 xs) (hk : KeepB B 5 w W) : ResAt W B r V1 V2 V3 V4 xs :=
 ⟨h.a1.keep hk, h.a2.keep hk, h.a3.keep hk, h.a4.keep hk, h.evs⟩
structure ResOk (r : ResV) : Prop where
 ticks : 0 ≤ r.op.ticks
 ttl : 0 ≤ r.op.ttl
 key : r.op.key.size ≤ maxLen
 val : r.op.val.length ≤ maxLen
structure JX (w W : World) (B Bv g : Nat) (vL vU : Value) (pv : Nat → Int) (s : PJ) (ps : List (EntV × Value)) (r : ResV) (V1 V2 V3 V4 : Value) (xs : List (EvV × Value)) : Prop where
 k : KRep W B g vL vU pv s ps
 rb : Blk W w.heap.size 46 (resc r V1 V2 V3 V4)
 ob : Blk W (w.heap.size + 1) 43 (opc r.op V1)
 a : ResAt W Bv r V1 V2 V3 V4 xs
 only : Only (KS B w) w W
 lt : g < w.heap.size
section
variable {w W W2 : World} {B Bv g : Nat} {vL vU : Value} {pv : Nat → Int} {s : PJ} {ps : List (EntV × Value)} {r : ResV} {V1 V2 V3 V4 : Value} {xs : List (EvV × Value)}
theorem JX.adv (h : JX w W B Bv g vL vU pv s ps r V1 V2 V3 V4 xs) (hb : Below W.heap.size W W2) : JX w W2 B Bv g vL vU pv s ps r V1 V2 V3 V4 xs :=
 ⟨h.k.below hb, h.rb.below hb, h.ob.below hb, h.a.keep (KeepB.of_below hb), h.only.trans (Only.of_below (S := fun _ => False) hb) (fun _ _ e => e.elim), h.lt⟩
theorem JX.nextK (h : JX w W B Bv g vL vU pv s ps r V1 V2 V3 V4 xs) {vL2 vU2 : Value} {pv2 : Nat → Int} {s2 : PJ} {ps2 : List (EntV × Value)} (hk : KRep W2 B g vL2 vU2 pv2 s2 ps2) (ho : Only (KS B W) W W2) (hBv : Bv ≤ B) : JX w W2 B Bv g vL2 vU2 pv2 s2 ps2 r V1 V2 V3 V4 xs :=
 ⟨hk, h.rb.only ho (KS.not_ h.rb (by decide) (by decide)), h.ob.only ho (KS.not_ h.ob (by decide) (by decide)), h.a.keep (KS.keepB ho hBv), KS.trans h.only ho, h.lt⟩
theorem JX.other (h : JX w W B Bv g vL vU pv s ps r V1 V2 V3 V4 xs) {gw : Nat} {cs : Array Value} (hb : Blk W gw 46 cs) (ho : Only (fun k => k = gw) W W2) (hB : B ≤ gw) (hBv : Bv ≤ B) (hw : w.heap.size + 1 < gw) : JX w W2 B Bv g vL vU pv s ps r V1 V2 V3 V4 xs :=
 ⟨h.k.other hb ho hB, h.rb.only ho (by omega), h.ob.only ho (by omega), h.a.keep (KeepB.of_blk hb (by decide) (Nat.le_trans hBv hB) ho), h.only.trans ho (fun i hi e => by omega), h.lt⟩
structure WX (W : World) (B gw : Nat) (x : WantV) (Vw Ve : Value) : Prop where
 b : Blk W gw 46 (wantc x Vw Ve)
 v : Bts W B 5 Vw x.val
 e : Bts W B 5 Ve x.ent.val
 lt : B ≤ gw
theorem WX.adv {gw : Nat} {x : WantV} {Vw Ve : Value} (h : WX W B gw x Vw Ve) (hb : Below W.heap.size W W2) : WX W2 B gw x Vw Ve := ⟨h.b.below hb, h.v.below hb, h.e.below hb, h.lt⟩
theorem WX.nextK {gw : Nat} {x : WantV} {Vw Ve : Value} (h : WX W B gw x Vw Ve) (ho : Only (KS B W) W W2) : WX W2 B gw x Vw Ve :=
 ⟨h.b.only ho (KS.not_ h.b (by decide) (by decide)), h.v.keep (KS.keepB ho (zN _)), h.e.keep (KS.keepB ho (zN _)), h.lt⟩
end
theorem jstep_8 {s : PJ} {r : ResV} (h : r.op.kind < 1 ∨ 14 < r.op.kind ∨ r.err ≠ rightP s r.op (addP s.now r.op.ticks)) : jstep s r = .error 8 := by unfold jstep; rw [if_pos h]
theorem jstep_no {s : PJ} {r : ResV} (h : ¬ (r.op.kind < 1 ∨ 14 < r.op.kind ∨ r.err ≠ rightP s r.op (addP s.now r.op.ticks))) (hr : refusedP r.op r.err = true) :
  jstep s r = if r.at_ ≠ s.now then .error 1 else if noExp r.evs = false then .error 3 else if r.evs ≠ [] then .error 2 else endP r s want0 := by unfold jstep; rw [if_neg h, if_pos hr]
theorem jstep_yes {s : PJ} {r : ResV} (h : ¬ (r.op.kind < 1 ∨ 14 < r.op.kind ∨ r.err ≠ rightP s r.op (addP s.now r.op.ticks))) (hr : refusedP r.op r.err = false) :
  jstep s r = if r.at_ ≠ addP s.now r.op.ticks then .error 1 else match eventsP s r.op r.err (addP s.now r.op.ticks) r.evs with | .error x => .error x | .ok (s2, w) => endP r s2 w := by unfold jstep; rw [if_neg h, if_neg (by rw [hr]; decide)]; rfl
set_option maxRecDepth 100000 in
set_option maxHeartbeats 8000000 in
theorem kJudge_any (B Bv g : Nat) (vL vU : Value) (pv : Nat → Int) (s : PJ) (ps : List (EntV × Value)) (r : ResV) (V1 V2 V3 V4 : Value) (xs : List (EvV × Value)) (N : Nat) (w : World) (h : KRep w B g vL vU pv s ps) (hi : PInv N s) (hN : N ≤ 80000) (hB : B ≤ w.heap.size) (hR : ResAt w Bv r V1 V2 V3 V4 xs) (hBv : Bv ≤ B) (hO : ResOk r) :
  Calls Tryz.prog 16 #[.pointer (some ⟨g, 0, none⟩), resv r V1 V2 V3 V4] w (EvtRet B g (jstep s r) w) := by
 obtain ⟨A1, c1, rfl⟩ := hR.a1.form
 obtain ⟨A2, c2, rfl⟩ := hR.a2.form
 obtain ⟨A3, c3, rfl⟩ := hR.a3.form
 obtain ⟨A4, c4, rfl⟩ := hR.a4.slice
 have HX0 : Hid (JX w ((w.alloc (.cells (resc r (.slice A1 r.op.val.length c1) (.slice A2 r.val.length c2) (.slice A3 r.ent.val.length c3) (.slice A4 xs.length c4)) 46)).alloc (.cells (opc r.op (.slice A1 r.op.val.length c1)) 43)) B Bv g vL vU pv s ps r (.slice A1 r.op.val.length c1) (.slice A2 r.val.length c2) (.slice A3 r.ent.val.length c3) (.slice A4 xs.length c4) xs) :=
  zH ⟨h.below (below_two _ _ _), (Blk.new _ _ _).alloc _, Blk.new2 _ _ _ _, hR.keep (KeepB.of_below (below_two _ _ _)), Only.of_below (below_two _ _ _), h.lt⟩
 have HPi := zH hi
 have HN := zH hN
 have HBs := zH hB
 have HBv := zH hBv
 have HO := zH hO
 have HRa := zH hR
 have hn := hi.now
 unfold resv resc
 unfold resc opc at HX0
 have HAd := zH (fun W => refAdd_any s.now r.op.ticks W hn.1 hn.2 hO.ticks)
 clear h hi hN hB hR hBv hO hn
 go_enter Tryz.func16, Tryz.ntmps16
 go_upto_region 2 with fail
 obtain ⟨W0, hW0⟩ : ∃ W0, (w.alloc (.cells #[.int .i64 r.op.kind, .int .u64 r.op.ticks, .string r.op.key, .slice A1 r.op.val.length c1, .int .u64 r.op.ttl, .int .i64 r.op.count, .int .i64 r.op.bytes, .int .i64 r.op.cursor, .int .u64 r.op.birth, .int .u64 r.at_, .int .i64 r.err, .bool r.hit, .slice A2 r.val.length c2, .string r.ent.key, .slice A3 r.ent.val.length c3, .int .u64 r.ent.dl, .int .u64 r.ent.birth, .int .i64 r.cursor, .slice A4 xs.length c4, .int .i64 r.len, .int .i64 r.cost] 46)).alloc (.cells #[.int .i64 r.op.kind, .int .u64 r.op.ticks, .string r.op.key, .slice A1 r.op.val.length c1, .int .u64 r.op.ttl, .int .i64 r.op.count, .int .i64 r.op.bytes, .int .i64 r.op.cursor, .int .u64 r.op.birth] 43) = W0 := ⟨_, rfl⟩
 rw [hW0] at HX0 ⊢
 clear hW0
 refine wp_region_noPanic ?_
 refine wp_region_held_drew (S := fun W => JX w W B Bv g vL vU pv s ps r (.slice A1 r.op.val.length c1) (.slice A2 r.val.length c2) (.slice A3 r.ent.val.length c3) (.slice A4 xs.length c4) xs) (by kernel_rfl) (HX0.out.adv (zL _ _).drew) (fun hHeld => ?_)
 generalize W0.drew = W1 at hHeld ⊢
 have HX1 := zH hHeld
 refine Pl.go [0, 1, 2, 3, 4, 5] ?_
 iterate 6
  refine tkl (v := ?_) ?_ ?_
  rotate_left 1
  ·intro W hSw
   have z1 : W.cell? ⟨w.heap.size + 1, 1, none⟩ = some (.int .u64 r.op.ticks) := hSw.ob.cell 1 _ rfl; have x5 : W.cell? ⟨g, 5, none⟩ = some (.int .u64 s.now) := hSw.k.cell 5 (by omega)
   clear hSw
   go_simp
   try with_reducible rfl
  try dsimp only [zS, zB, zC]
 refine Pl.stop ?_
 refine wpAnyH_ready (rs := [6]) (by kernel_rfl) (by simp) ?_
 refine AllReadyH.cons (o := ⟨_, _, _, _, _, _⟩) rfl (fun F hF => ?_) AllReadyH.nil
 go_simp
 refine (HAd.out W1).mono ?_
 rintro e2 w4 ⟨rfl, hw4⟩
 subst hw4
 go_wp2_with fail
 refine hF.out _ _ HX1.out (fun hHeld => ?_)
 clear hF F
 try simp only [Act.put, zA, zB, zC]
 refine tk 7 (v := ?_) ?_ ?_
 rotate_left 1
 ·intro W hSw
  skip
  clear hSw
  go_simp
  try with_reducible rfl
 try dsimp only [zS, zB, zC]
 refine wpAnyH_done (by kernel_rfl) ?_ _
 refine NoPanic.normal ?_
 clear hHeld HX0
 obtain ⟨t1, ht1⟩ : ∃ t1, addP s.now r.op.ticks = t1 := ⟨_, rfl⟩
 have HT1 := zH ht1
 rw [ht1] at HAd ⊢
 obtain ⟨e0, he0⟩ : ∃ e0, rightP s r.op t1 = e0 := ⟨_, rfl⟩
 have HE0 := zH he0
 have HRt := zH (he0 ▸ kRight_any B g vL vU pv s ps r.op A1 c1 t1 W1 HX1.out.k HPi.out.pls (by have := HX1.out.k.lenP HPi.out; have := HN.out; omega) HO.out.key HO.out.val)
 clear ht1 he0 HAd
 obtain ⟨z0, z1, z2, z3, z4, z5, z6, z7, z8⟩ := op_cells HX1.out.ob
 go_wp2_with fail
 refine HRt.out.mono ?_
 rintro e2 w2 ⟨rfl, hb2⟩
 have HX2 := zH (HX1.out.adv hb2)
 clear hb2 z0 z1 z2 z3 z4 z5 z6 z7 z8 HX1 HRt
 obtain ⟨z0, z1, z2, z3, z4, z5, z6, z7, z8⟩ := op_cells HX2.out.ob
 have r9 : World.cell? w2 ⟨w.heap.size, 9, none⟩ = some (.int .u64 r.at_) := HX2.out.rb.cell 9 _ rfl
 have r10 : World.cell? w2 ⟨w.heap.size, 10, none⟩ = some (.int .i64 r.err) := HX2.out.rb.cell 10 _ rfl
 have r18 : World.cell? w2 ⟨w.heap.size, 18, none⟩ = some (.slice A4 xs.length c4) := HX2.out.rb.cell 18 _ rfl
 by_cases hk1 : r.op.kind < 1
 ·have HS := zH (jstep_8 (s := s) (r := r) (.inl hk1))
  go_wp2_with fail
  go_ret
  exact EvtRet.err HS.out (HX2.out.only)
 ·by_cases hk14 : 14 < r.op.kind
  ·have HS := zH (jstep_8 (s := s) (r := r) (.inr (.inl hk14)))
   go_wp2_with fail
   go_ret
   exact EvtRet.err HS.out (HX2.out.only)
  ·by_cases herr : r.err = e0
   ·have HGd : Hid (¬ (r.op.kind < 1 ∨ 14 < r.op.kind ∨ r.err ≠ rightP s r.op (addP s.now r.op.ticks))) := zH (by
     rw [HT1.out, HE0.out]; omega)
    have HKd : Hid (1 ≤ r.op.kind ∧ r.op.kind ≤ 14) := zH (by omega)
    have herb : (r.err != e0) = false := by simp [herr]
    have HEr := zH herr
    have HRf := zH (fun W => kRefused_any r.op A1 r.op.val.length c1 e0 W)
    clear herr
    go_wp2_with fail
    refine (HRf.out _).mono ?_
    rintro e2 w3 ⟨rfl, hb3⟩
    have HX3 := zH (HX2.out.adv hb3)
    have hq : refB r.op e0 = refusedP r.op r.err := by rw [HEr.out, ← HE0.out]; exact refB_right s r.op t1
    rw [hq]
    obtain ⟨q, hq2⟩ : ∃ q, refusedP r.op r.err = q := ⟨_, rfl⟩
    rw [hq2]
    have HQ := zH hq2
    clear hb3 z0 z1 z2 z3 z4 z5 z6 z7 z8 HX2 HRf r9 r10 r18 hq hq2 herb
    obtain ⟨z0, z1, z2, z3, z4, z5, z6, z7, z8⟩ := op_cells HX3.out.ob
    have r9 : World.cell? w3 ⟨w.heap.size, 9, none⟩ = some (.int .u64 r.at_) := HX3.out.rb.cell 9 _ rfl
    have r18 : World.cell? w3 ⟨w.heap.size, 18, none⟩ = some (.slice A4 xs.length c4) := HX3.out.rb.cell 18 _ rfl
    have x5 : World.cell? w3 ⟨g, 5, none⟩ = some (.int .u64 s.now) := HX3.out.k.cell 5 (by omega)
    go_upto_if 46 with fail
    obtain ⟨t2, ht2⟩ : ∃ t2, (if q = true then s.now else t1) = t2 := ⟨_, rfl⟩
    have HT2 := zH ht2
    clear ht2
    go_cut [6] (fun at_ wc => at_ = .int .u64 t2 ∧ wc = w3)
    case first =>
     cases q with
     |true =>
      go_wp2_with fail
      go_meet
      exact ⟨by rw [← HT2.out]; rfl, rfl⟩
     |false =>
      go_wp2_with fail
      go_meet
      exact ⟨by rw [← HT2.out]; rfl, rfl⟩
    case rest =>
     obtain ⟨hat0, hwc⟩ := hcut
     subst hat0
     rw [hwc]
     clear hwc
     by_cases hat : r.at_ = t2
     ·have hatb : (r.at_ != t2) = false := by simp [hat]
      have HAt := zH hat
      clear hat
      go_upto_if 57 with fail
      have HX4 : Hid (JX w (w3.alloc (.cells #[.int .i64 0, .int .u64 0, .string ⟨#[]⟩, .slice none 0 0, .int .u64 0, .int .i64 0, .int .i64 0, .int .i64 0, .int .u64 0, .int .u64 0, .int .i64 0, .bool false, .slice none 0 0, .string ⟨#[]⟩, .slice none 0 0, .int .u64 0, .int .u64 0, .int .i64 0, .slice none 0 0, .int .i64 0, .int .i64 0] 46)) B Bv g vL vU pv s ps r (.slice A1 r.op.val.length c1) (.slice A2 r.val.length c2) (.slice A3 r.ent.val.length c3) (.slice A4 xs.length c4) xs) := zH (HX3.out.adv ((zL _ _).alloc (zN _) _))
      have HW4 : Hid (WX (w3.alloc (.cells #[.int .i64 0, .int .u64 0, .string ⟨#[]⟩, .slice none 0 0, .int .u64 0, .int .i64 0, .int .i64 0, .int .i64 0, .int .u64 0, .int .u64 0, .int .i64 0, .bool false, .slice none 0 0, .string ⟨#[]⟩, .slice none 0 0, .int .u64 0, .int .u64 0, .int .i64 0, .slice none 0 0, .int .i64 0, .int .i64 0] 46)) B w3.heap.size want0 (.slice none 0 0) (.slice none 0 0)) := zH ⟨Blk.new _ _ _, Bts.nil _ _ _, Bts.nil _ _ _, Nat.le_trans HBs.out HX3.out.only.size⟩
      have HGw : Hid (w.heap.size + 1 < w3.heap.size) := zH HX3.out.ob.lt
      generalize w3.alloc _ = w4 at HX4 HW4 ⊢
      generalize w3.heap.size = gw at HW4 HGw ⊢
      clear z0 z1 z2 z3 z4 z5 z6 z7 z8 r9 r18 x5 HX3
      go_cut [] (fun wc => ∃ vL2 vU2 pv2 s2 ps2 x Vw Ve, JX w wc B Bv g vL2 vU2 pv2 s2 ps2 r (.slice A1 r.op.val.length c1) (.slice A2 r.val.length c2) (.slice A3 r.ent.val.length c3) (.slice A4 xs.length c4) xs ∧ WX wc B gw x Vw Ve ∧ jstep s r = endP r s2 x ∧ PInv (N + 1) s2)
      case first =>
       cases q with
       |true =>
        have HJ : Hid (jstep s r = if noExp (xs.map Prod.fst) = false then .error 3 else if xs.map Prod.fst ≠ [] then .error 2 else endP r s want0) := zH (by
         rw [jstep_no HGd.out HQ.out, if_neg (by rw [HAt.out, ← HT2.out]; simp), HRa.out.evs])
        go_wp2_with fail
        refine (kNone_any Bv _ xs w4 HX4.out.a.a4).mono ?_
        rintro e2 w5 ⟨rfl, hw5⟩
        subst hw5
        obtain ⟨ne, hne⟩ : ∃ ne, noExp (xs.map Prod.fst) = ne := ⟨_, rfl⟩
        have HNe := zH hne
        rw [hne]
        clear hne
        cases ne with
        |false =>
         have HS : Hid (jstep s r = .error 3) := zH (by rw [HJ.out, if_pos HNe.out])
         go_wp2_with fail
         go_ret
         exact EvtRet.err HS.out (HX4.out.only)
        |true =>
         by_cases hx0 : xs.length = 0
         ·have HXe : Hid (xs = []) := zH (List.length_eq_zero_iff.1 hx0)
          have HSe : Hid (jstep s r = endP r s want0) := zH (by rw [HJ.out, if_neg (by rw [HNe.out]; decide), if_neg (by rw [HXe.out]; simp)])
          have hx1 : ¬ (0 : Int) < (xs.length : Int) := by omega
          clear hx0
          go_wp2_with fail
          go_meet
          exact ⟨_, _, _, _, _, _, _, _, HX4.out, HW4.out, HSe.out, HPi.out.more⟩
         ·have HS : Hid (jstep s r = .error 2) := zH (by rw [HJ.out, if_neg (by rw [HNe.out]; decide), if_pos (fun h => hx0 (by rw [← List.length_map (f := Prod.fst), h]; rfl))])
          have hx1 : (0 : Int) < (xs.length : Int) := by omega
          clear hx0
          go_wp2_with fail
          go_ret
          exact EvtRet.err HS.out (HX4.out.only)
       |false =>
        have HJ : Hid (jstep s r = match eventsP s r.op e0 t1 (xs.map Prod.fst) with | .error x => .error x | .ok (s2, w) => endP r s2 w) := zH (by
         rw [jstep_yes HGd.out HQ.out, if_neg (by rw [HAt.out, ← HT2.out, HT1.out]; simp), HT1.out, HEr.out, HRa.out.evs])
        have ht12 : t1 = t2 := by rw [← HT2.out]; rfl
        subst ht12
        clear HT2
        go_wp2_with fail
        refine (kExpire_any B Bv g vL vU pv s ps t1 _ xs w4 HX4.out.k HX4.out.a.a4 HBv.out (by have := HX4.out.k.lenP HPi.out; have := HN.out; omega) (by have := HPi.out.lenU; have := HN.out; omega) (Nat.le_trans HBs.out HX4.out.only.size) HPi.out.asc).mono ?_
        rintro e2 w5 ⟨lv, ok, rfl, hon, hno, hsome⟩
        have HOn := zH hon
        obtain ⟨st, hst⟩ : ∃ st, stripP (dueE s t1) (xs.map Prod.fst) = st := ⟨_, rfl⟩
        cases st with
        |none =>
         have hok := hno hst
         subst hok
         have HS : Hid (jstep s r = .error 3) := zH (by
          rw [HJ.out]
          unfold eventsP
          rw [hst])
         clear hno hsome hst hon
         go_wp2_with fail
         go_ret
         exact EvtRet.err HS.out (KS.trans HX4.out.only (KS.of_g HX4.out.k HOn.out))
        |some l1 =>
         obtain ⟨hok, xs1, vL1, vU1, ps1, hxs1, hev1, hk1, hpn1⟩ := hsome l1 hst
         subst hok
         obtain ⟨ne, hne⟩ : ∃ ne, noExp l1 = ne := ⟨_, rfl⟩
         rw [hne]
         cases ne with
         |false =>
          have HS : Hid (jstep s r = .error 3) := zH (by
           rw [HJ.out]
           unfold eventsP
           rw [hst]
           dsimp only
           rw [if_pos hne])
          clear hno hsome hst hon hne hxs1 hev1 hk1 hpn1
          go_wp2_with fail
          go_ret
          exact EvtRet.err HS.out (KS.trans HX4.out.only (KS.of_g HX4.out.k HOn.out))
         |true =>
          have HJ2 : Hid (jstep s r = match stripP (ownE (expireP s t1) r.op) l1 with | none => .error 2 | some l2 => match evictP r.op l2 (effP (expireP s t1) r.op e0) with | .error x => .error x | .ok s2 => endP r s2 (readsP (expireP s t1) r.op e0)) := zH (by
           rw [HJ.out]
           unfold eventsP
           rw [hst]
           dsimp only
           rw [if_neg (by rw [hne]; decide)]
           cases stripP (ownE (expireP s t1) r.op) l1 with
           |none => rfl
           |some l2 =>
            dsimp only
            cases evictP r.op l2 (effP (expireP s t1) r.op e0) with
            |error x => rfl
            |ok s2 => rfl)
          have HVk : Hid (r.op.kind = 1 ∨ r.op.kind = 2 → r.op.val.length ≤ 100000) := zH (fun h => by have := ((right_cases HKd.out (by have := HQ.out; rw [HEr.out, ← HE0.out] at this; exact this) HPi.out.pls).2.1 h).2; omega)
          have HEk : Hid (EffOk (expireP s t1) r.op e0) := zH (HE0.out ▸ effOk_of HKd.out (by have := HQ.out; rw [HEr.out, ← HE0.out] at this; exact this) HPi.out.pls)
          have hti : 0 ≤ t1 ∧ t1 ≤ neverT := by rw [← HT1.out]; exact addP_range HPi.out.now.1 HO.out.ticks
          have HEi : Hid (PInv (N + 1) (effP (expireP s t1) r.op e0)) := zH (HE0.out ▸ effect_inv HPi.out hti HO.out.ttl HKd.out (by have := HQ.out; rw [HEr.out, ← HE0.out] at this; exact this))
          have HI5 : Hid (PInv N (expireP s t1)) := zH (HPi.out.expire t1 hti)
          have HTi := zH hti
          obtain ⟨s5, hs5⟩ : ∃ s5, expireP s t1 = s5 := ⟨_, rfl⟩
          have hn5 : s5.now = t1 := by rw [← hs5]; rfl
          rw [hs5] at HJ2 HEk HEi HI5 hk1
          have HN5 := zH hn5
          obtain ⟨A5, c5, rfl⟩ := hev1.slice
          have HX5 := zH (HX4.out.nextK hk1 (KS.of_g HX4.out.k hon) HBv.out)
          have HW5 := zH (HW4.out.nextK (KS.of_g HX4.out.k hon))
          have HV5 := zH hev1
          have HXf := zH hxs1
          have x5 : World.cell? w5 ⟨g, 5, none⟩ = some (.int .u64 s.now) := HX5.out.k.cell 5 (by omega)
          have xf := HX5.out.k.frozen
          clear hno hsome hst hon hne hxs1 hev1 hk1 hpn1 hs5 hn5 hti
          go_upto_region 22 with fail
          have HX6 : Hid (JX w (w5.setCell ⟨g, 5, none⟩ (.int .u64 t1)) B Bv g vL1 vU1 pv s5 ps1 r (.slice A1 r.op.val.length c1) (.slice A2 r.val.length c2) (.slice A3 r.ent.val.length c3) (.slice A4 xs.length c4) xs) := zH (by
           have h := HX5.out.nextK (HX5.out.k.setNow t1) (KS.of_g HX5.out.k (Only.set1 _ _ _ _)) HBv.out
           have e : ({ { s5 with now := s.now } with now := t1 } : PJ) = s5 := by rw [← HN5.out]
           rw [e] at h
           exact h)
          have HW6 := zH (HW5.out.nextK (KS.of_g HX5.out.k (Only.set1 w5 g 5 (.int .u64 t1))))
          have HV6 := zH (HV5.out.keep (KS.keepB (KS.of_g HX5.out.k (Only.set1 w5 g 5 (.int .u64 t1))) HBv.out))
          clear x5 xf HX5 HW5 HV5 HOn HX4 HW4
          generalize World.setCell _ _ _ = w6 at HX6 HW6 HV6 ⊢
          have HOw : Hid (Calls Tryz.prog 29 #[.pointer (some ⟨g, 0, none⟩), opv r.op (.slice A1 r.op.val.length c1), .int .u64 t1] w6 (OwnEv s5 r.op w6)) := zH (by
           have h := kOwn_any B g vL1 vU1 pv s5 ps1 r.op A1 r.op.val.length c1 w6 HX6.out.k (by have := HX6.out.k.lenP HI5.out; have := HN.out; omega) (Nat.le_trans HBs.out HX6.out.only.size)
           rw [HN5.out] at h
           exact h)
          obtain ⟨z0, z1, z2, z3, z4, z5, z6, z7, z8⟩ := op_cells HX6.out.ob
          go_wp2_with fail
          refine HOw.out.mono ?_
          rintro e2 w7 ⟨vo, ys, rfl, hyo, hyf, hb7⟩
          obtain ⟨Ao, co, rfl, hco, hcm⟩ := hyo.cap
          have HX7 := zH (HX6.out.adv hb7)
          have HW7 := zH (HW6.out.adv hb7)
          have HV7 := zH (HV6.out.below hb7)
          have HYo := zH hyo
          have HYf := zH hyf
          obtain ⟨A5', c5', he5, hc5, hc5m⟩ := HV7.out.cap
          cases he5
          unfold maxLen at hcm hc5m
          have hyI : (ys.length : Int) ≤ 9223372036854775807 := by omega
          have hyc : (ys.length : Int) ≤ (co : Int) := by omega
          have hxI : (xs1.length : Int) ≤ 9223372036854775807 := by omega
          have hxc : (xs1.length : Int) ≤ (c5 : Int) := by omega
          clear hyo hyf hb7 z0 z1 z2 z3 z4 z5 z6 z7 z8 HX6 HW6 HV6 HOw hco hcm hc5 hc5m
          go_wp2_with fail
          go_loopw [14] (fun i wr => ∃ m : Nat, m ≤ ys.length ∧ m ≤ xs1.length ∧ i = .int .i64 m ∧ stripP ((ys.drop m).map Prod.fst) ((xs1.drop m).map Prod.fst) = stripP (ys.map Prod.fst) (xs1.map Prod.fst) ∧ Below w7.heap.size w7 wr) (fun i _ => ys.length - (intOf i).toNat)
          case atStart => exact ⟨0, by omega, by omega, rfl, rfl, zL _ _⟩
          case round =>
           obtain ⟨m, hm, hmx, rfl, hst, hbl⟩ := hrel
           have HSt := zH hst
           have HBl := zH hbl
           clear hst hbl
           by_cases hml : m < ys.length
           ·obtain ⟨⟨yv, yV⟩, hy⟩ : ∃ p, ys[m]? = some p := ⟨_, List.getElem?_eq_getElem hml⟩
            obtain ⟨qo, oo, hqo, -, -⟩ := HYo.out.at_ hy
            subst hqo
            have HYm := zH hy
            obtain ⟨YA, yc, hyV⟩ := (HYo.out.vals _ (List.mem_of_getElem? hy)).form
            dsimp only at hyV
            subst hyV
            have hmI : (m : Int) < (ys.length : Int) := by omega
            have hm0 : (0 : Int) ≤ (m : Int) := by omega
            have HYc : Hid ((ys.drop m).map Prod.fst = yv :: (ys.drop (m + 1)).map Prod.fst) := zH (by
             obtain ⟨h1, h2⟩ := List.getElem?_eq_some_iff.1 hy
             rw [List.drop_eq_getElem_cons h1, h2]; rfl)
            clear hy
            by_cases hmx2 : m < xs1.length
            ·obtain ⟨⟨xv, xV⟩, hx⟩ : ∃ p, xs1[m]? = some p := ⟨_, List.getElem?_eq_getElem hmx2⟩
             obtain ⟨qx, ox, hqx, -, -⟩ := HV7.out.at_ hx
             subst hqx
             have HXm := zH hx
             obtain ⟨XA, xc, hxV⟩ := (HV7.out.vals _ (List.mem_of_getElem? hx)).form
             dsimp only at hxV
             subst hxV
             have hmxI : (m : Int) < (xs1.length : Int) := by omega
             have HXc : Hid ((xs1.drop m).map Prod.fst = xv :: (xs1.drop (m + 1)).map Prod.fst) := zH (by
              obtain ⟨h1, h2⟩ := List.getElem?_eq_some_iff.1 hx
              rw [List.drop_eq_getElem_cons h1, h2]; rfl)
             have hd1 : decide (xs1.length ≤ m) = false := decide_eq_false (by omega)
             have hd2 : decide ((xs1.length : Int) ≤ (m : Int)) = false := decide_eq_false (by omega)
             clear hx
             go_upto_region 26 with fail
             refine wp_region_noPanic ?_
             refine wp_region_held_drew (S := fun W => Below w7.heap.size w7 W) (by kernel_rfl) HBl.out.drew (fun hHeld => ?_)
             generalize wr.drew = W3 at hHeld ⊢
             have H3 := zH hHeld
             refine Pl.go [0, 1, 2, 3, 4, 5, 6, 7, 8, 9, 10, 11, 12] ?_
             iterate 13
              refine tkl (v := ?_) ?_ ?_
              rotate_left 1
              ·intro W hSw
               obtain ⟨a0, a1, a2, a3, a4, a5⟩ := ev_cells (HYo.out.below hSw) HYm.out; obtain ⟨b0, b1, b2, b3, b4, b5⟩ := ev_cells (HV7.out.below hSw) HXm.out; dsimp only at a0 a1 a2 a3 a4 a5 b0 b1 b2 b3 b4 b5
               clear hSw
               go_simp
               try with_reducible rfl
              try dsimp only [zS, zB, zC]
             refine Pl.stop ?_
             refine wpAnyH_ready (rs := [13]) (by kernel_rfl) (by simp) ?_
             refine AllReadyH.cons (o := ⟨_, _, _, _, _, _⟩) rfl (fun F hF => ?_) AllReadyH.nil
             go_simp
             refine (kSame_any Bv w7.heap.size xv yv _ _ W3 ((HV7.out.vals (xv, _) (List.mem_of_getElem? HXm.out)).below H3.out) ((HYo.out.vals (yv, _) (List.mem_of_getElem? HYm.out)).below H3.out)).mono ?_
             rintro e2 w8 ⟨rfl, hb8⟩
             have H8 := zH (H3.out.trans (hb8.mono H3.out.size))
             clear hb8 hHeld
             obtain ⟨qe, hqe⟩ : ∃ qe, decide (xv = yv) = qe := ⟨_, rfl⟩
             have HQe := zH hqe
             rw [hqe]
             clear hqe
             go_wp2_with fail
             refine hF.out _ _ H8.out (fun hHeld => ?_)
             clear hF F
             try simp only [Act.put, zA, zB, zC]
             cases qe with
             |true =>
              refine Pl.go [14, 15] ?_
              iterate 2
               refine tkl (v := ?_) ?_ ?_
               rotate_left 1
               ·intro W hSw
                skip
                clear hSw
                go_simp
                try with_reducible rfl
               try dsimp only [zS, zB, zC]
              refine Pl.stop ?_
              refine wpAnyH_done (by kernel_rfl) ?_ _
              refine NoPanic.normal ?_
              go_wp2_with fail
              go_roundw
              case rel => exact ⟨m + 1, by omega, by omega, by go_num, by rw [← HSt.out, HYc.out, HXc.out, strip_eq (of_decide_eq_true HQe.out)], hHeld⟩
              case measure => simp [intOf]; omega
             |false =>
              have HS : Hid (jstep s r = .error 2) := zH (by
               rw [HJ2.out, ← HYf.out, ← HXf.out, ← HSt.out, HYc.out, HXc.out, strip_ne (of_decide_eq_false HQe.out)])
              refine Pl.go [14, 15] ?_
              iterate 2
               refine tkl (v := ?_) ?_ ?_
               rotate_left 1
               ·intro W hSw
                skip
                clear hSw
                go_simp
                try with_reducible rfl
               try dsimp only [zS, zB, zC]
              refine Pl.stop ?_
              refine wpAnyH_done (by kernel_rfl) ?_ _
              refine NoPanic.normal ?_
              go_wp2_with fail
              go_ret
              exact EvtRet.err HS.out ((HX7.out.adv hHeld).only)
            ·obtain rfl : m = xs1.length := by omega
             have HS : Hid (jstep s r = .error 2) := zH (by
              rw [HJ2.out, ← HYf.out, ← HXf.out, ← HSt.out, HYc.out, List.drop_length]; rfl)
             have hd1 : decide (xs1.length ≤ xs1.length) = true := decide_eq_true (by omega)
             have hd2 : decide ((xs1.length : Int) ≤ (xs1.length : Int)) = true := decide_eq_true (by omega)
             go_upto_region 26 with fail
             refine wp_region_noPanic ?_
             refine wp_region_held_drew (S := fun W => Below w7.heap.size w7 W) (by kernel_rfl) HBl.out.drew (fun hHeld => ?_)
             refine Pl.go [0, 1, 2, 3, 4] ?_
             iterate 5
              refine tkl (v := ?_) ?_ ?_
              rotate_left 1
              ·intro W hSw
               skip
               clear hSw
               go_simp
               try with_reducible rfl
              try dsimp only [zS, zB, zC]
             refine Pl.stop ?_
             refine Pl.go [5, 6, 7, 8, 9, 10, 11, 12, 13, 14] ?_
             iterate 10
              refine skl ?_
              try dsimp only [zS, zB, zC]
             refine Pl.stop ?_
             refine tk 15 (v := ?_) ?_ ?_
             rotate_left 1
             ·intro W hSw
              skip
              clear hSw
              go_simp
              try with_reducible rfl
             try dsimp only [zS, zB, zC]
             refine wpAnyH_done (by kernel_rfl) ?_ _
             refine NoPanic.normal ?_
             go_wp2_with fail
             go_ret
             exact EvtRet.err HS.out ((HX7.out.adv hHeld).only)
           ·obtain rfl : m = ys.length := by omega
            have HJ3 : Hid (jstep s r = match evictP r.op ((xs1.drop ys.length).map Prod.fst) (effP s5 r.op e0) with | .error x => .error x | .ok s2 => endP r s2 (readsP s5 r.op e0)) := zH (by
             rw [HJ2.out, ← HYf.out, ← HXf.out, ← HSt.out, List.drop_length]; rfl)
            have HX8 := zH (HX7.out.adv HBl.out)
            have HW8 := zH (HW7.out.adv HBl.out)
            have HV8 := zH (HV7.out.below HBl.out)
            have HMx := zH hmx
            have HRd : Hid (Calls Tryz.prog 31 #[.pointer (some ⟨g, 0, none⟩), opv r.op (.slice A1 r.op.val.length c1), .int .i64 e0, .int .u64 t1] wr (RdsE B (readsP s5 r.op e0) wr)) := zH (by
             have h := kReads_any B g vL1 vU1 pv s5 ps1 r.op A1 r.op.val.length c1 e0 wr HX8.out.k (by have := HX8.out.k.lenP HI5.out; have := HN.out; omega) (Nat.le_trans HBs.out HX8.out.only.size) HI5.out.pls HEk.out.h12
             rw [HN5.out] at h
             exact h)
            obtain ⟨z0, z1, z2, z3, z4, z5, z6, z7, z8⟩ := op_cells HX8.out.ob
            go_wp2_with fail
            refine HRd.out.mono ?_
            rintro e2 w9 ⟨Vw, Ve, rfl, hbw, hbe, hb9⟩
            obtain ⟨Aw, cw, rfl⟩ := hbw.form
            obtain ⟨Ae, ce, rfl⟩ := hbe.form
            have HX9 := zH (HX8.out.adv hb9)
            have HW9 := zH (HW8.out.adv hb9)
            have HV9 := zH (HV8.out.below hb9)
            have HBw := zH hbw
            have HBe := zH hbe
            have HZ9 := zH HW9.out.b
            clear hbw hbe hb9 z0 z1 z2 z3 z4 z5 z6 z7 z8 HX7 HW7 HV7 HX8 HW8 HV8 HBl HYo HRd HSt
            obtain ⟨xw, hxw⟩ : ∃ xw, readsP s5 r.op e0 = xw := ⟨_, rfl⟩
            rw [hxw] at HBw HBe HJ3 ⊢
            clear hxw
            go_upto_region 29 with (refine wpList_store_row rfl 46 _ _ rfl gw _ rfl rfl 46 _ HZ9.out (by kernel_rfl) rfl (by simp [wantc, Value.oneCell']) ?_)
            have HonR : Hid (Only (fun k => k = gw) w9 (w9.setRow gw (wantc xw (.slice Aw xw.val.length cw) (.slice Ae xw.ent.val.length ce)))) := zH (Only.setRow (S := fun k => k = gw) (Only.refl _ _) (.inl rfl) _)
            have HX10 := zH (HX9.out.other HZ9.out HonR.out HW9.out.lt HBv.out HGw.out)
            have HW10 : Hid (WX (w9.setRow gw (wantc xw (.slice Aw xw.val.length cw) (.slice Ae xw.ent.val.length ce))) B gw xw (.slice Aw xw.val.length cw) (.slice Ae xw.ent.val.length ce)) := zH ⟨HZ9.out.row _, HBw.out.keep (KeepB.of_blk HZ9.out (by decide) HW9.out.lt HonR.out), HBe.out.keep (KeepB.of_blk HZ9.out (by decide) HW9.out.lt HonR.out), HW9.out.lt⟩
            have HV10 := zH (HV9.out.keep (KeepB.of_blk HZ9.out (by decide) (Nat.le_trans HBv.out HW9.out.lt) HonR.out))
            generalize w9.setRow _ _ = w10 at HonR HX10 HW10 HV10 ⊢
            clear HX9 HW9 HV9 HBw HBe HZ9 HonR
            have HEf : Hid (Calls Tryz.prog 32 #[.pointer (some ⟨g, 0, none⟩), opv r.op (.slice A1 r.op.val.length c1), .int .i64 e0, .int .u64 t1] w10 (EfRet B g (effP s5 r.op e0) w10)) := zH (by
             have h := kEffect_any B Bv g vL1 vU1 pv s5 ps1 r.op (.slice A1 r.op.val.length c1) e0 w10 (EfP.of HX10.out.k HI5.out (by have := HN.out; omega) (Nat.le_trans HBs.out HX10.out.only.size)) HI5.out.now HO.out.ttl HX10.out.a.a1 HBv.out HVk.out (by have := HI5.out.cnt; have := HN.out; omega) HI5.out.lowU HEk.out
             rw [HN5.out] at h
             exact h)
            obtain ⟨z0, z1, z2, z3, z4, z5, z6, z7, z8⟩ := op_cells HX10.out.ob
            go_wp2_with fail
            refine HEf.out.mono ?_
            rintro e2 w11 ⟨vL3, vU3, pv3, ps3, rfl, hk3, ho3⟩
            have HX11 := zH (HX10.out.nextK hk3 ho3 HBv.out)
            have HW11 := zH (HW10.out.nextK ho3)
            have HV11 := zH (HV10.out.keep (KS.keepB ho3 HBv.out))
            clear hk3 ho3 z0 z1 z2 z3 z4 z5 z6 z7 z8 HX10 HW10 HV10 HEf
            have hn6 : (effP s5 r.op e0).now = t1 := by rw [effP_now]; exact HN5.out
            obtain ⟨s6, hs6⟩ : ∃ s6, effP s5 r.op e0 = s6 := ⟨_, rfl⟩
            rw [hs6] at HX11 HJ3 HEi hn6
            have HN6 := zH hn6
            clear hs6 hn6
            obtain ⟨k, hk⟩ : ∃ k, ys.length = k := ⟨_, rfl⟩
            rw [hk] at HMx HJ3 ⊢
            have hkx : k ≤ xs1.length := HMx.out
            have hkc : k ≤ c5 := by omega
            have hkI : (k : Int) ≤ (xs1.length : Int) := by omega
            clear hk hm hmx hml hyI hyc
            go_upto_region 30 with fail
            refine wp_region_noPanic ?_
            have H12d : Hid (JX w w11.drew B Bv g vL3 vU3 pv3 s6 ps3 r (.slice A1 r.op.val.length c1) (.slice A2 r.val.length c2) (.slice A3 r.ent.val.length c3) (.slice A4 xs.length c4) xs ∧ WX w11.drew B gw xw (.slice Aw xw.val.length cw) (.slice Ae xw.ent.val.length ce) ∧ EvsAt w11.drew Bv (.slice A5 xs1.length c5) xs1) := zH ⟨HX11.out.adv (zL _ _).drew, HW11.out.adv (zL _ _).drew, HV11.out.below (zL _ _).drew⟩
            refine wp_region_till [7] (fun W => Blk W (w.heap.size + 1) 43 (opc r.op (.slice A1 r.op.val.length c1))) (fun _ => True) (by kernel_rfl) trivial H12d.out.1.ob (fun hTill => ?_)
            generalize w11.drew = w12 at H12d hTill ⊢
            have H12 := zH H12d.out
            refine ts 0 (v := ?_) ?_ ?_
            rotate_left 1
            ·intro W hSw
             skip
             clear hSw
             go_simp
             try with_reducible rfl
            try dsimp only [zS, zB, zC]
            clear hTill
            intro hTill
            refine tt 1 (v := ?_) ?_ ?_
            rotate_left 1
            ·intro W hSw
             obtain ⟨z0, z1, z2, z3, z4, z5, z6, z7, z8⟩ := op_cells hSw.2
             clear hSw
             go_simp
             try with_reducible rfl
            try dsimp only [zS, zB, zC]
            clear hTill
            intro hTill
            refine Pl.go [2, 3, 4] ?_
            iterate 3
             refine tsl (v := ?_) ?_ ?_
             rotate_left 1
             ·intro W hSw
              skip
              clear hSw
              go_simp
              try with_reducible rfl
             try dsimp only [zS, zB, zC]
             clear hTill
             intro hTill
            refine Pl.stop ?_
            refine ts 6 (v := ?_) ?_ ?_
            rotate_left 1
            ·intro W hSw
             skip
             clear hSw
             go_simp
             try with_reducible rfl
            try dsimp only [zS, zB, zC]
            clear hTill
            intro hTill
            refine ts 5 (v := ?_) ?_ ?_
            rotate_left 1
            ·intro W hSw
             skip
             clear hSw
             go_simp
             try with_reducible rfl
            try dsimp only [zS, zB, zC]
            clear hTill
            intro hTill
            have HD12 := zH (H12.out.2.2.dropA k hkx)
            have HDl : Hid ((xs1.drop k).length = xs1.length - k) := zH List.length_drop
            generalize (if c5 = k then A5 else Option.map (fun x => x.add (k * 6)) A5) = A6 at HD12 ⊢
            have HEv : Hid (Calls Tryz.prog 33 #[.pointer (some ⟨g, 0, none⟩), opv r.op (.slice A1 r.op.val.length c1), .slice A6 (xs1.length - k) (c5 - k), .int .u64 t1] w12 (EvtRet B g (evictP r.op ((xs1.drop k).map Prod.fst) s6) w12)) := zH (by
             have h := kEvict_any B Bv g vL3 vU3 pv3 s6 ps3 r.op A1 r.op.val.length c1 _ _ (N + 1) w12 H12.out.1.k HEi.out (by have := HN.out; omega) (Nat.le_trans HBs.out H12.out.1.only.size) HD12.out HBv.out
             rw [HN6.out] at h
             exact h)
            refine wpTill.only (i := 7) (o := ⟨_, _, _, _, _, _⟩) (by kernel_rfl) rfl (fun F hF => ?_)
            go_simp
            refine HEv.out.mono ?_
            rintro e2 w13 hret
            obtain ⟨res, hres⟩ : ∃ res, evictP r.op ((xs1.drop k).map Prod.fst) s6 = res := ⟨_, rfl⟩
            have HRes := zH hres
            rw [hres] at hret
            clear hres HEv
            cases res with
            |error y =>
             have he := hret.2.1 y rfl
             have HOe := zH (KS.trans H12.out.1.only hret.1)
             subst he
             have hy := evictP_err _ _ _ _ HRes.out
             have hyb : (y != 0) = true := by rw [bne_iff_ne]; omega
             have HS : Hid (jstep s r = .error y) := zH (by rw [HJ3.out, HRes.out])
             clear hret hy
             go_wp2_with fail
             refine hF.out _ _ (Till.stored trivial (by kernel_rfl)) (fun hTill => ?_)
             clear hF F
             try simp only [Act.put, zA, zB, zC]
             refine ts 8 (v := ?_) ?_ ?_
             rotate_left 1
             ·intro W hSw
              skip
              clear hSw
              go_simp
              try with_reducible rfl
             try dsimp only [zS, zB, zC]
             clear hTill
             intro hTill
             refine wpTill.done (by kernel_rfl) ?_
             try refine NoPanic.normal ?_
             go_wp2_with fail
             go_ret
             exact EvtRet.err HS.out (HOe.out)
            |ok s7 =>
             obtain ⟨he, vL4, vU4, pv4, ps4, hk4⟩ := hret.2.2 s7 rfl
             have ho4 := hret.1
             subst he
             have HX13 := zH (H12.out.1.nextK hk4 ho4 HBv.out)
             have HW13 := zH (H12.out.2.1.nextK ho4)
             have HJ4 : Hid (jstep s r = endP r s7 xw) := zH (by rw [HJ3.out, HRes.out])
             have HI7 : Hid (PInv (N + 1) s7) := zH (evictP_inv _ _ _ _ HEi.out HRes.out)
             clear hret hk4 ho4
             go_wp2_with fail
             refine hF.out _ _ (Till.stored trivial (by kernel_rfl)) (fun hTill => ?_)
             clear hF F
             try simp only [Act.put, zA, zB, zC]
             refine ts 8 (v := ?_) ?_ ?_
             rotate_left 1
             ·intro W hSw
              skip
              clear hSw
              go_simp
              try with_reducible rfl
             try dsimp only [zS, zB, zC]
             clear hTill
             intro hTill
             refine wpTill.done (by kernel_rfl) ?_
             try refine NoPanic.normal ?_
             clear hTill
             go_wp2_with fail
             go_meet
             exact ⟨_, _, _, _, _, _, _, _, HX13.out, HW13.out, HJ4.out, HI7.out⟩
      case rest =>
       obtain ⟨vL2, vU2, pv2, s2, ps2, x, Vw, Ve, hjx, hwx, hjs, hpi⟩ := hcut
       obtain ⟨LA, lc, hvL, hlc, _⟩ := own_form hjx.k.L
       subst hvL
       have HJs := zH hjs
       have HPi2 := zH hpi
       have HY0 := zH (And.intro hjx hwx)
       have hpl : ps2.length ≤ N + 1 := hjx.k.lenP hpi
       have hnI : (ps2.length : Int) ≤ 90000 := by have := HN.out; omega
       have hlcI : (ps2.length : Int) ≤ (lc : Int) := by omega
       have HCo := zH (fun W hW => kCost_any B g (.slice LA ps2.length lc) vU2 pv2 s2 ps2 W hW (by have := HN.out; omega) (fun e he => by
        have h1 := (hpi.ok e he).1
        have h2 := (hpi.ok e he).2.1
        unfold keyOK at h1
        rw [decide_eq_true_eq] at h1
        exact ⟨h1.2, h2⟩))
       have hwi : withinP s2 ↔ ((ps2.length : Int) ≤ s2.cfg.count ∧ costP s2.L ≤ s2.cfg.bytes) := by
        unfold withinP
        rw [← hjx.k.map, List.length_map]
       have hln : (s2.L.length : Int) = ps2.length := by rw [← hjx.k.map, List.length_map]
       have HLn := zH hln
       obtain ⟨cn, hcn⟩ : ∃ cn, s2.cfg.count = cn := ⟨_, rfl⟩
       obtain ⟨by_, hby⟩ : ∃ by_, s2.cfg.bytes = by_ := ⟨_, rfl⟩
       obtain ⟨C, hC⟩ : ∃ C, costP s2.L = C := ⟨_, rfl⟩
       have HC0 : Hid (∀ W, KRep W B g (.slice LA ps2.length lc) vU2 pv2 s2 ps2 → W.cell? ⟨g, 0, none⟩ = some (.int .i64 cn)) := zH (fun W hW => hcn ▸ hW.cell 0 (by omega))
       have HC1 : Hid (∀ W, KRep W B g (.slice LA ps2.length lc) vU2 pv2 s2 ps2 → W.cell? ⟨g, 1, none⟩ = some (.int .i64 by_)) := zH (fun W hW => hby ▸ hW.cell 1 (by omega))
       rw [hcn, hby, hC] at hwi
       rw [hC] at HCo
       have HCe := zH hC
       have HWi := zH hwi
       clear hjx hwx hjs hpi hlc hpl hcn hby hC hwi hln
       go_upto_region 33 with fail
       refine wp_region_noPanic ?_
       refine wp_region_held_drew (S := fun W => JX w W B Bv g (.slice LA ps2.length lc) vU2 pv2 s2 ps2 r (.slice A1 r.op.val.length c1) (.slice A2 r.val.length c2) (.slice A3 r.ent.val.length c3) (.slice A4 xs.length c4) xs ∧ WX W B gw x Vw Ve) (by kernel_rfl) ⟨HY0.out.1.adv (zL _ _).drew, HY0.out.2.adv (zL _ _).drew⟩ (fun hHeld => ?_)
       generalize wc.drew = W3 at hHeld ⊢
       have H3 := zH hHeld
       by_cases d1 : cn < (ps2.length : Int)
       ·have HS : Hid (jstep s r = .error 5) := zH (by
         rw [HJs.out]
         unfold endP
         rw [if_pos (.inl (fun h => by have := (HWi.out.1 h).1; omega))])
        refine Pl.go [0, 1, 2, 3, 4, 5, 6, 7, 8, 9, 10, 11] ?_
        iterate 12
         refine tkl (v := ?_) ?_ ?_
         rotate_left 1
         ·intro W hSw
          have x7 : W.cell? ⟨g, 7, none⟩ = some (.slice LA ps2.length lc) := hSw.1.k.cell 7 (by omega); have x0 := HC0.out _ hSw.1.k; have x1 := HC1.out _ hSw.1.k; have r19 : W.cell? ⟨w.heap.size, 19, none⟩ = some (.int .i64 r.len) := hSw.1.rb.cell 19 _ rfl; have r20 : W.cell? ⟨w.heap.size, 20, none⟩ = some (.int .i64 r.cost) := hSw.1.rb.cell 20 _ rfl
          clear hSw
          go_simp
          try with_reducible rfl
         try dsimp only [zS, zB, zC]
        refine Pl.stop ?_
        refine Pl.go [12, 13, 14, 15, 16, 17, 18, 19] ?_
        iterate 8
         refine skl ?_
         try dsimp only [zS, zB, zC]
        refine Pl.stop ?_
        refine tk 20 (v := ?_) ?_ ?_
        rotate_left 1
        ·intro W hSw
         skip
         clear hSw
         go_simp
         try with_reducible rfl
        try dsimp only [zS, zB, zC]
        refine tk 21 (v := ?_) ?_ ?_
        rotate_left 1
        ·intro W hSw
         skip
         clear hSw
         go_simp
         try with_reducible rfl
        try dsimp only [zS, zB, zC]
        refine Pl.go [22, 23, 24, 25, 26, 27, 28, 29] ?_
        iterate 8
         refine skl ?_
         try dsimp only [zS, zB, zC]
        refine Pl.stop ?_
        refine tk 30 (v := ?_) ?_ ?_
        rotate_left 1
        ·intro W hSw
         skip
         clear hSw
         go_simp
         try with_reducible rfl
        try dsimp only [zS, zB, zC]
        refine tk 31 (v := ?_) ?_ ?_
        rotate_left 1
        ·intro W hSw
         skip
         clear hSw
         go_simp
         try with_reducible rfl
        try dsimp only [zS, zB, zC]
        refine Pl.go [32, 33, 34, 35, 36] ?_
        iterate 5
         refine skl ?_
         try dsimp only [zS, zB, zC]
        refine Pl.stop ?_
        refine tk 37 (v := ?_) ?_ ?_
        rotate_left 1
        ·intro W hSw
         skip
         clear hSw
         go_simp
         try with_reducible rfl
        try dsimp only [zS, zB, zC]
        refine wpAnyH_done (by kernel_rfl) ?_ _
        refine NoPanic.normal ?_
        go_wp2_with fail
        go_ret
        exact EvtRet.err HS.out (hHeld.1.only)
       ·refine tk 0 (v := ?_) ?_ ?_
        rotate_left 1
        ·intro W hSw
         have x7 : W.cell? ⟨g, 7, none⟩ = some (.slice LA ps2.length lc) := hSw.1.k.cell 7 (by omega); have x0 := HC0.out _ hSw.1.k; have x1 := HC1.out _ hSw.1.k; have r19 : W.cell? ⟨w.heap.size, 19, none⟩ = some (.int .i64 r.len) := hSw.1.rb.cell 19 _ rfl; have r20 : W.cell? ⟨w.heap.size, 20, none⟩ = some (.int .i64 r.cost) := hSw.1.rb.cell 20 _ rfl
         clear hSw
         go_simp
         try with_reducible rfl
        try dsimp only [zS, zB, zC]
        refine Pl.go [1, 2, 3, 4, 5, 6, 7, 8, 9, 10, 11, 12] ?_
        iterate 12
         refine tkl (v := ?_) ?_ ?_
         rotate_left 1
         ·intro W hSw
          have x7 : W.cell? ⟨g, 7, none⟩ = some (.slice LA ps2.length lc) := hSw.1.k.cell 7 (by omega); have x0 := HC0.out _ hSw.1.k; have x1 := HC1.out _ hSw.1.k; have r19 : W.cell? ⟨w.heap.size, 19, none⟩ = some (.int .i64 r.len) := hSw.1.rb.cell 19 _ rfl; have r20 : W.cell? ⟨w.heap.size, 20, none⟩ = some (.int .i64 r.cost) := hSw.1.rb.cell 20 _ rfl
          clear hSw
          go_simp
          try with_reducible rfl
         try dsimp only [zS, zB, zC]
        refine Pl.stop ?_
        refine Pl.go [14, 15, 16, 17, 18] ?_
        iterate 5
         refine tkl (v := ?_) ?_ ?_
         rotate_left 1
         ·intro W hSw
          have x7 : W.cell? ⟨g, 7, none⟩ = some (.slice LA ps2.length lc) := hSw.1.k.cell 7 (by omega); have x0 := HC0.out _ hSw.1.k; have x1 := HC1.out _ hSw.1.k; have r19 : W.cell? ⟨w.heap.size, 19, none⟩ = some (.int .i64 r.len) := hSw.1.rb.cell 19 _ rfl; have r20 : W.cell? ⟨w.heap.size, 20, none⟩ = some (.int .i64 r.cost) := hSw.1.rb.cell 20 _ rfl
          clear hSw
          go_simp
          try with_reducible rfl
         try dsimp only [zS, zB, zC]
        refine Pl.stop ?_
        refine wpAnyH_ready (rs := [13]) (by kernel_rfl) (by simp) ?_
        refine AllReadyH.cons (o := ⟨_, _, _, _, _, _⟩) rfl (fun F hF => ?_) AllReadyH.nil
        go_simp
        refine (HCo.out _ H3.out.1.k).mono ?_
        rintro e2 w5 ⟨rfl, hb5⟩
        have H5 := zH (And.intro (H3.out.1.adv hb5) (H3.out.2.adv hb5))
        clear hb5 hHeld
        go_wp2_with fail
        refine hF.out _ _ H5.out (fun hHeld => ?_)
        clear hF F
        try simp only [Act.put, zA, zB, zC]
        by_cases d2 : by_ < C
        ·have HS : Hid (jstep s r = .error 5) := zH (by
          rw [HJs.out]
          unfold endP
          rw [if_pos (.inl (fun h => by have := (HWi.out.1 h).2; omega))])
         refine tk 19 (v := ?_) ?_ ?_
         rotate_left 1
         ·intro W hSw
          skip
          clear hSw
          go_simp
          try with_reducible rfl
         try dsimp only [zS, zB, zC]
         refine tk 20 (v := ?_) ?_ ?_
         rotate_left 1
         ·intro W hSw
          skip
          clear hSw
          go_simp
          try with_reducible rfl
         try dsimp only [zS, zB, zC]
         refine tk 21 (v := ?_) ?_ ?_
         rotate_left 1
         ·intro W hSw
          skip
          clear hSw
          go_simp
          try with_reducible rfl
         try dsimp only [zS, zB, zC]
         refine Pl.go [22, 23, 24, 25, 26, 27, 28, 29] ?_
         iterate 8
          refine skl ?_
          try dsimp only [zS, zB, zC]
         refine Pl.stop ?_
         refine tk 30 (v := ?_) ?_ ?_
         rotate_left 1
         ·intro W hSw
          skip
          clear hSw
          go_simp
          try with_reducible rfl
         try dsimp only [zS, zB, zC]
         refine tk 31 (v := ?_) ?_ ?_
         rotate_left 1
         ·intro W hSw
          skip
          clear hSw
          go_simp
          try with_reducible rfl
         try dsimp only [zS, zB, zC]
         refine Pl.go [32, 33, 34, 35, 36] ?_
         iterate 5
          refine skl ?_
          try dsimp only [zS, zB, zC]
         refine Pl.stop ?_
         refine tk 37 (v := ?_) ?_ ?_
         rotate_left 1
         ·intro W hSw
          skip
          clear hSw
          go_simp
          try with_reducible rfl
         try dsimp only [zS, zB, zC]
         refine wpAnyH_done (by kernel_rfl) ?_ _
         refine NoPanic.normal ?_
         go_wp2_with fail
         go_ret
         exact EvtRet.err HS.out (hHeld.1.only)
        ·have HWt : Hid (withinP s2) := zH (HWi.out.2 ⟨by omega, by omega⟩)
         refine tk 19 (v := ?_) ?_ ?_
         rotate_left 1
         ·intro W hSw
          skip
          clear hSw
          go_simp
          try with_reducible rfl
         try dsimp only [zS, zB, zC]
         refine tk 20 (v := ?_) ?_ ?_
         rotate_left 1
         ·intro W hSw
          skip
          clear hSw
          go_simp
          try with_reducible rfl
         try dsimp only [zS, zB, zC]
         refine tk 21 (v := ?_) ?_ ?_
         rotate_left 1
         ·intro W hSw
          skip
          clear hSw
          go_simp
          try with_reducible rfl
         try dsimp only [zS, zB, zC]
         by_cases d3 : r.len = (ps2.length : Int)
         ·have d3b : (r.len != (ps2.length : Int)) = false := by simp [d3]
          have HD3 := zH d3
          clear d3
          refine Pl.go [22, 23, 24, 25, 26, 27, 28, 29, 30, 31] ?_
          iterate 10
           refine tkl (v := ?_) ?_ ?_
           rotate_left 1
           ·intro W hSw
            have x7 : W.cell? ⟨g, 7, none⟩ = some (.slice LA ps2.length lc) := hSw.1.k.cell 7 (by omega); have x0 := HC0.out _ hSw.1.k; have x1 := HC1.out _ hSw.1.k; have r19 : W.cell? ⟨w.heap.size, 19, none⟩ = some (.int .i64 r.len) := hSw.1.rb.cell 19 _ rfl; have r20 : W.cell? ⟨w.heap.size, 20, none⟩ = some (.int .i64 r.cost) := hSw.1.rb.cell 20 _ rfl
            clear hSw
            go_simp
            try with_reducible rfl
           try dsimp only [zS, zB, zC]
          refine Pl.stop ?_
          by_cases d4 : r.cost = C
          ·have d4b : (r.cost != C) = false := by simp [d4]
           have HD4 := zH d4
           clear d4
           refine Pl.go [32, 33, 34] ?_
           iterate 3
            refine tkl (v := ?_) ?_ ?_
            rotate_left 1
            ·intro W hSw
             have x7 : W.cell? ⟨g, 7, none⟩ = some (.slice LA ps2.length lc) := hSw.1.k.cell 7 (by omega); have x0 := HC0.out _ hSw.1.k; have x1 := HC1.out _ hSw.1.k; have r19 : W.cell? ⟨w.heap.size, 19, none⟩ = some (.int .i64 r.len) := hSw.1.rb.cell 19 _ rfl; have r20 : W.cell? ⟨w.heap.size, 20, none⟩ = some (.int .i64 r.cost) := hSw.1.rb.cell 20 _ rfl
             clear hSw
             go_simp
             try with_reducible rfl
            try dsimp only [zS, zB, zC]
           refine Pl.stop ?_
           refine wpAnyH_ready (rs := [35]) (by kernel_rfl) (by simp) ?_
           refine AllReadyH.cons (o := ⟨_, _, _, _, _, _⟩) rfl (fun F hF => ?_) AllReadyH.nil
           go_simp
           refine (HCo.out _ H5.out.1.k).mono ?_
           rintro e2 w6 ⟨rfl, hb5⟩
           have H6 := zH (And.intro (H5.out.1.adv hb5) (H5.out.2.adv hb5))
           clear hb5 hHeld
           go_wp2_with fail
           refine hF.out _ _ H6.out (fun hHeld => ?_)
           clear hF F
           try simp only [Act.put, zA, zB, zC]
           refine tk 36 (v := ?_) ?_ ?_
           rotate_left 1
           ·intro W hSw
            skip
            clear hSw
            go_simp
            try with_reducible rfl
           try dsimp only [zS, zB, zC]
           refine tk 37 (v := ?_) ?_ ?_
           rotate_left 1
           ·intro W hSw
            skip
            clear hSw
            go_simp
            try with_reducible rfl
           try dsimp only [zS, zB, zC]
           refine wpAnyH_done (by kernel_rfl) ?_ _
           refine NoPanic.normal ?_
           clear hHeld H3 H5 HY0 d1 d2 d3b d4b
           have HSe : Hid (jstep s r = if r.hit ≠ x.hit ∨ r.val ≠ x.val ∨ (r.ent ≠ x.ent ∧ r.op.kind ≠ 12) then .error 6 else if r.cursor ≠ x.cursor ∨ r.ent ≠ x.ent then .error 7 else .ok s2) := zH (by
            rw [HJs.out]
            unfold endP
            rw [if_neg (by rintro (h | h | h); exact h HWt.out; exact h (by rw [HLn.out]; exact HD3.out); exact h (by rw [HCe.out]; exact HD4.out))])
           obtain ⟨Aw, cw, hVw⟩ := H6.out.2.v.form
           obtain ⟨Ae, ce, hVe⟩ := H6.out.2.e.form
           subst hVw
           subst hVe
           have cv := (H6.out.1.a.a2).string (P := Tryz.prog) 37 9 Tryz.underlying37 Tryz.underlying5 Tryz.underlying9
           have cu := (H6.out.2.v).string (P := Tryz.prog) 37 9 Tryz.underlying37 Tryz.underlying5 Tryz.underlying9
           have r11 : World.cell? w6 ⟨w.heap.size, 11, none⟩ = some (.bool r.hit) := H6.out.1.rb.cell 11 _ rfl
           have r12 : World.cell? w6 ⟨w.heap.size, 12, none⟩ = some (.slice A2 r.val.length c2) := H6.out.1.rb.cell 12 _ rfl
           have r13 : World.cell? w6 ⟨w.heap.size, 13, none⟩ = some (.string r.ent.key) := H6.out.1.rb.cell 13 _ rfl
           have r14 : World.cell? w6 ⟨w.heap.size, 14, none⟩ = some (.slice A3 r.ent.val.length c3) := H6.out.1.rb.cell 14 _ rfl
           have r15 : World.cell? w6 ⟨w.heap.size, 15, none⟩ = some (.int .u64 r.ent.dl) := H6.out.1.rb.cell 15 _ rfl
           have r16 : World.cell? w6 ⟨w.heap.size, 16, none⟩ = some (.int .u64 r.ent.birth) := H6.out.1.rb.cell 16 _ rfl
           have r17 : World.cell? w6 ⟨w.heap.size, 17, none⟩ = some (.int .i64 r.cursor) := H6.out.1.rb.cell 17 _ rfl
           have b11 : World.cell? w6 ⟨gw, 11, none⟩ = some (.bool x.hit) := H6.out.2.b.cell 11 _ rfl
           have b12 : World.cell? w6 ⟨gw, 12, none⟩ = some (.slice Aw x.val.length cw) := H6.out.2.b.cell 12 _ rfl
           have b13 : World.cell? w6 ⟨gw, 13, none⟩ = some (.string x.ent.key) := H6.out.2.b.cell 13 _ rfl
           have b14 : World.cell? w6 ⟨gw, 14, none⟩ = some (.slice Ae x.ent.val.length ce) := H6.out.2.b.cell 14 _ rfl
           have b15 : World.cell? w6 ⟨gw, 15, none⟩ = some (.int .u64 x.ent.dl) := H6.out.2.b.cell 15 _ rfl
           have b16 : World.cell? w6 ⟨gw, 16, none⟩ = some (.int .u64 x.ent.birth) := H6.out.2.b.cell 16 _ rfl
           have b17 : World.cell? w6 ⟨gw, 17, none⟩ = some (.int .i64 x.cursor) := H6.out.2.b.cell 17 _ rfl
           have z0 : World.cell? w6 ⟨w.heap.size + 1, 0, none⟩ = some (.int .i64 r.op.kind) := H6.out.1.ob.cell 0 _ rfl
           have HEq := zH (fun W (h : JX w W B Bv g (.slice LA ps2.length lc) vU2 pv2 s2 ps2 r (.slice A1 r.op.val.length c1) (.slice A2 r.val.length c2) (.slice A3 r.ent.val.length c3) (.slice A4 xs.length c4) xs ∧ WX W B gw x (.slice Aw x.val.length cw) (.slice Ae x.ent.val.length ce)) => refEqual_any Bv B r.ent x.ent _ _ W h.1.a.a3 h.2.e)
           by_cases e1 : r.hit = x.hit
           ·have e1b : (r.hit != x.hit) = false := by rw [e1]; simp
            by_cases e2 : r.val = x.val
            ·have e2b : (r.val != x.val) = false := by rw [e2]; simp
             have e2c : (r.val == x.val) = true := by rw [e2]; simp
             by_cases k12 : r.op.kind = 12
             ·have k12b : (r.op.kind != 12) = false := by simp [k12]
              have HSe2 : Hid (jstep s r = if r.cursor ≠ x.cursor ∨ r.ent ≠ x.ent then .error 7 else .ok s2) := zH (by
               rw [HSe.out, if_neg (by rintro (h | h | h); exact h e1; exact h e2; exact h.2 k12)])
              clear e2 k12
              go_upto_region 37 with fail
              by_cases e3 : r.cursor = x.cursor
              ·have e3b : (r.cursor != x.cursor) = false := by simp [e3]
               obtain ⟨q5, hq5⟩ : ∃ q5, decide (r.ent = x.ent) = q5 := ⟨_, rfl⟩
               have HQ5 := zH hq5
               cases q5 with
               |true =>
                have HS : Hid (jstep s r = .ok s2) := zH (by
                 rw [HSe2.out, if_neg (by rintro (h | h); exact h e3; exact h (of_decide_eq_true hq5))])
                clear e3 hq5
                go_wp2_with fail
                refine (HEq.out w6 H6.out).mono ?_
                rintro e3 w8 ⟨rfl, hb8⟩
                rw [HQ5.out]
                have H8 := zH (H6.out.1.adv hb8)
                clear hb8
                go_wp2_with fail
                go_ret
                exact EvtRet.ok HS.out H8.out.k H8.out.only
               |false =>
                have HS : Hid (jstep s r = .error 7) := zH (by
                 rw [HSe2.out, if_pos (.inr (of_decide_eq_false hq5))])
                clear e3 hq5
                go_wp2_with fail
                refine (HEq.out w6 H6.out).mono ?_
                rintro e3 w8 ⟨rfl, hb8⟩
                rw [HQ5.out]
                have H8 := zH (H6.out.1.adv hb8)
                clear hb8
                go_wp2_with fail
                go_ret
                exact EvtRet.err HS.out (H8.out.only)
              ·have e3b : (r.cursor != x.cursor) = true := by simp [e3]
               have HS : Hid (jstep s r = .error 7) := zH (by rw [HSe2.out, if_pos (.inl e3)])
               clear e3
               go_wp2_with fail
               go_ret
               exact EvtRet.err HS.out (H6.out.1.only)
             ·have k12b : (r.op.kind != 12) = true := by simp [k12]
              obtain ⟨q4, hq4⟩ : ∃ q4, decide (r.ent = x.ent) = q4 := ⟨_, rfl⟩
              have HQ4 := zH hq4
              cases q4 with
              |true =>
               have HSe2 : Hid (jstep s r = if r.cursor ≠ x.cursor ∨ r.ent ≠ x.ent then .error 7 else .ok s2) := zH (by
                rw [HSe.out, if_neg (by rintro (h | h | h); exact h e1; exact h e2; exact h.1 (of_decide_eq_true hq4))])
               clear e2 k12 hq4
               go_wp2_with fail
               refine (HEq.out w6 H6.out).mono ?_
               rintro e3 w7 ⟨rfl, hb7⟩
               rw [HQ4.out]
               have H7 := zH (And.intro (H6.out.1.adv hb7) (H6.out.2.adv hb7))
               clear hb7 r11 r12 r13 r14 r15 r16 r17 b11 b12 b13 b14 b15 b16 b17 z0 cv cu
               have r13 : World.cell? w7 ⟨w.heap.size, 13, none⟩ = some (.string r.ent.key) := H7.out.1.rb.cell 13 _ rfl
               have r14 : World.cell? w7 ⟨w.heap.size, 14, none⟩ = some (.slice A3 r.ent.val.length c3) := H7.out.1.rb.cell 14 _ rfl
               have r15 : World.cell? w7 ⟨w.heap.size, 15, none⟩ = some (.int .u64 r.ent.dl) := H7.out.1.rb.cell 15 _ rfl
               have r16 : World.cell? w7 ⟨w.heap.size, 16, none⟩ = some (.int .u64 r.ent.birth) := H7.out.1.rb.cell 16 _ rfl
               have r17 : World.cell? w7 ⟨w.heap.size, 17, none⟩ = some (.int .i64 r.cursor) := H7.out.1.rb.cell 17 _ rfl
               have b13 : World.cell? w7 ⟨gw, 13, none⟩ = some (.string x.ent.key) := H7.out.2.b.cell 13 _ rfl
               have b14 : World.cell? w7 ⟨gw, 14, none⟩ = some (.slice Ae x.ent.val.length ce) := H7.out.2.b.cell 14 _ rfl
               have b15 : World.cell? w7 ⟨gw, 15, none⟩ = some (.int .u64 x.ent.dl) := H7.out.2.b.cell 15 _ rfl
               have b16 : World.cell? w7 ⟨gw, 16, none⟩ = some (.int .u64 x.ent.birth) := H7.out.2.b.cell 16 _ rfl
               have b17 : World.cell? w7 ⟨gw, 17, none⟩ = some (.int .i64 x.cursor) := H7.out.2.b.cell 17 _ rfl
               go_upto_region 37 with fail
               by_cases e3 : r.cursor = x.cursor
               ·have e3b : (r.cursor != x.cursor) = false := by simp [e3]
                obtain ⟨q5, hq5⟩ : ∃ q5, decide (r.ent = x.ent) = q5 := ⟨_, rfl⟩
                have HQ5 := zH hq5
                cases q5 with
                |true =>
                 have HS : Hid (jstep s r = .ok s2) := zH (by
                  rw [HSe2.out, if_neg (by rintro (h | h); exact h e3; exact h (of_decide_eq_true hq5))])
                 clear e3 hq5
                 go_wp2_with fail
                 refine (HEq.out w7 H7.out).mono ?_
                 rintro e3 w8 ⟨rfl, hb8⟩
                 rw [HQ5.out]
                 have H8 := zH (H7.out.1.adv hb8)
                 clear hb8
                 go_wp2_with fail
                 go_ret
                 exact EvtRet.ok HS.out H8.out.k H8.out.only
                |false =>
                 have HS : Hid (jstep s r = .error 7) := zH (by
                  rw [HSe2.out, if_pos (.inr (of_decide_eq_false hq5))])
                 clear e3 hq5
                 go_wp2_with fail
                 refine (HEq.out w7 H7.out).mono ?_
                 rintro e3 w8 ⟨rfl, hb8⟩
                 rw [HQ5.out]
                 have H8 := zH (H7.out.1.adv hb8)
                 clear hb8
                 go_wp2_with fail
                 go_ret
                 exact EvtRet.err HS.out (H8.out.only)
               ·have e3b : (r.cursor != x.cursor) = true := by simp [e3]
                have HS : Hid (jstep s r = .error 7) := zH (by rw [HSe2.out, if_pos (.inl e3)])
                clear e3
                go_wp2_with fail
                go_ret
                exact EvtRet.err HS.out (H7.out.1.only)
              |false =>
               have HS : Hid (jstep s r = .error 6) := zH (by
                rw [HSe.out, if_pos (.inr (.inr ⟨of_decide_eq_false hq4, k12⟩))])
               clear e2 k12 hq4
               go_wp2_with fail
               refine (HEq.out w6 H6.out).mono ?_
               rintro e3 w7 ⟨rfl, hb7⟩
               rw [HQ4.out]
               have H7 := zH (H6.out.1.adv hb7)
               clear hb7
               go_wp2_with fail
               go_ret
               exact EvtRet.err HS.out (H7.out.only)
            ·have e2b : (r.val != x.val) = true := by simp [e2]
             have e2c : (r.val == x.val) = false := by simp [e2]
             have HS : Hid (jstep s r = .error 6) := zH (by rw [HSe.out, if_pos (.inr (.inl e2))])
             clear e2
             go_wp2_with fail
             go_ret
             exact EvtRet.err HS.out (H6.out.1.only)
           ·have e1b : (r.hit != x.hit) = true := by simp [e1]
            have HS : Hid (jstep s r = .error 6) := zH (by rw [HSe.out, if_pos (.inl e1)])
            go_wp2_with fail
            go_ret
            exact EvtRet.err HS.out (H6.out.1.only)
          ·have d4b : (r.cost != C) = true := by simp [d4]
           have HS : Hid (jstep s r = .error 5) := zH (by
            rw [HJs.out]
            unfold endP
            rw [if_pos (.inr (.inr (by rw [HCe.out]; exact d4)))])
           clear d4
           refine Pl.go [32, 33, 34] ?_
           iterate 3
            refine tkl (v := ?_) ?_ ?_
            rotate_left 1
            ·intro W hSw
             have x7 : W.cell? ⟨g, 7, none⟩ = some (.slice LA ps2.length lc) := hSw.1.k.cell 7 (by omega); have x0 := HC0.out _ hSw.1.k; have x1 := HC1.out _ hSw.1.k; have r19 : W.cell? ⟨w.heap.size, 19, none⟩ = some (.int .i64 r.len) := hSw.1.rb.cell 19 _ rfl; have r20 : W.cell? ⟨w.heap.size, 20, none⟩ = some (.int .i64 r.cost) := hSw.1.rb.cell 20 _ rfl
             clear hSw
             go_simp
             try with_reducible rfl
            try dsimp only [zS, zB, zC]
           refine Pl.stop ?_
           refine wpAnyH_ready (rs := [35]) (by kernel_rfl) (by simp) ?_
           refine AllReadyH.cons (o := ⟨_, _, _, _, _, _⟩) rfl (fun F hF => ?_) AllReadyH.nil
           go_simp
           refine (HCo.out _ H5.out.1.k).mono ?_
           rintro e2 w6 ⟨rfl, hb5⟩
           have H6 := zH (And.intro (H5.out.1.adv hb5) (H5.out.2.adv hb5))
           clear hb5 hHeld
           go_wp2_with fail
           refine hF.out _ _ H6.out (fun hHeld => ?_)
           clear hF F
           try simp only [Act.put, zA, zB, zC]
           refine tk 36 (v := ?_) ?_ ?_
           rotate_left 1
           ·intro W hSw
            skip
            clear hSw
            go_simp
            try with_reducible rfl
           try dsimp only [zS, zB, zC]
           refine tk 37 (v := ?_) ?_ ?_
           rotate_left 1
           ·intro W hSw
            skip
            clear hSw
            go_simp
            try with_reducible rfl
           try dsimp only [zS, zB, zC]
           refine wpAnyH_done (by kernel_rfl) ?_ _
           refine NoPanic.normal ?_
           go_wp2_with fail
           go_ret
           exact EvtRet.err HS.out (hHeld.1.only)
         ·have d3b : (r.len != (ps2.length : Int)) = true := by simp [d3]
          have HS : Hid (jstep s r = .error 5) := zH (by
           rw [HJs.out]
           unfold endP
           rw [if_pos (.inr (.inl (by rw [HLn.out]; exact d3)))])
          clear d3
          refine Pl.go [22, 23, 24, 25, 26, 27, 28, 29, 30, 31] ?_
          iterate 10
           refine tkl (v := ?_) ?_ ?_
           rotate_left 1
           ·intro W hSw
            have x7 : W.cell? ⟨g, 7, none⟩ = some (.slice LA ps2.length lc) := hSw.1.k.cell 7 (by omega); have x0 := HC0.out _ hSw.1.k; have x1 := HC1.out _ hSw.1.k; have r19 : W.cell? ⟨w.heap.size, 19, none⟩ = some (.int .i64 r.len) := hSw.1.rb.cell 19 _ rfl; have r20 : W.cell? ⟨w.heap.size, 20, none⟩ = some (.int .i64 r.cost) := hSw.1.rb.cell 20 _ rfl
            clear hSw
            go_simp
            try with_reducible rfl
           try dsimp only [zS, zB, zC]
          refine Pl.stop ?_
          refine Pl.go [32, 33, 34, 35, 36] ?_
          iterate 5
           refine skl ?_
           try dsimp only [zS, zB, zC]
          refine Pl.stop ?_
          refine tk 37 (v := ?_) ?_ ?_
          rotate_left 1
          ·intro W hSw
           skip
           clear hSw
           go_simp
           try with_reducible rfl
          try dsimp only [zS, zB, zC]
          refine wpAnyH_done (by kernel_rfl) ?_ _
          refine NoPanic.normal ?_
          go_wp2_with fail
          go_ret
          exact EvtRet.err HS.out (hHeld.1.only)
     ·have HS : Hid (jstep s r = .error 1) := zH (by
       cases q with
       |true => rw [jstep_no HGd.out HQ.out, if_pos (by rw [← HT2.out] at hat; simpa using hat)]
       |false => rw [jstep_yes HGd.out HQ.out, if_pos (by rw [← HT2.out, ← HT1.out] at hat; simpa using hat)])
      have hatb : (r.at_ != t2) = true := by simp [hat]
      clear hat
      go_wp2_with fail
      go_ret
      exact EvtRet.err HS.out (HX3.out.only)
   ·have HS := zH (jstep_8 (s := s) (r := r) (.inr (.inr (by rw [HT1.out, HE0.out]; exact herr))))
    have herb : (r.err != e0) = true := by simp [herr]
    clear herr
    go_wp2_with fail
    go_ret
    exact EvtRet.err HS.out (HX2.out.only)
end Go.Proofs.YtnabbimompapfaaGreat
namespace Go.Proofs.YtnabbimompapfaaGreat
open Go Go.RowKit
section
variable {P : Program}
theorem wpList_load_at {ops : Array Oper} {rest : List Oper} {o : Oper} {a : Act} {w : World} {Q : Exit → Act → World → Prop} (hgd : o.guard = none) (ty : TypeId) (x : Operand) (ho : o.op = .load ty x)
  (p : Addr) (hx : a.eval x = .pointer (some p)) (cs : Array Value) (d : TypeDesc) (hc : ∀ j v, cs.toList[j]? = some v → w.cell? (p.add j) = some v)
  (hu : P.underlying ty = some d) (hd : (match d with | .struct _ | .array _ _ => true | _ => false) = true) (hi : (P.info? ty).map (·.size) = some cs.size)
  (h : wpList P ops Q rest (a.put o.dst (.agg cs)) w) : wpList P ops Q (o :: rest) a w := by
 have hl : (loadCells p cs.toList.length).run P w = .ok cs.toList.toArray w := run_loadCells_list (P := P) w p cs.toList hc
 have hv : (loadVar ty p).run P w = .ok (.agg cs) w := by
  cases hq : P.info? ty with
  |none => simp [hq] at hi
  |some i =>
   have hs : i.size = cs.size := by simpa [hq] using hi
   have hagg : (isAgg ty).run P w = .ok true w := by
    unfold isAgg
    rw [Sem.run_bind, run_underlying hu w]
    cases d <;> simp_all
   simp only [Array.length_toList, Array.toArray_toList] at hl
   simp [loadVar, Sem.run_bind, hagg, sizeOf, typeInfo, hq, hs, hl]
 refine wpList_plain hgd fun _ hK => ?_
 unfold Oper.wp execOp
 simp only [ho, hx, Instr.loadAt, Instr.sureAddr, Sem.run_bind, Sem.run_pure, Result.andThen_ok, hv]
 exact hK _ _ h
end
structure RQ where
 r : ResV
 v1 : Value
 v2 : Value
 v3 : Value
 v4 : Value
 xs : List (EvV × Value)
def RQ.c (q : RQ) : Array Value := resc q.r q.v1 q.v2 q.v3 q.v4
structure RsAt (w : World) (B : Nat) (v : Value) (qs : List RQ) : Prop where
 form : ∃ A cap, v = .slice A qs.length cap ∧ qs.length ≤ cap ∧ cap ≤ maxLen ∧ (A = none → qs.length = 0) ∧
  (0 < qs.length → ∃ b off, A = some ⟨b, off, none⟩ ∧ (b < w.heap.size ∧ b < B) ∧ ∀ i p, qs[i]? = some p → ∀ j u, p.c[j]? = some u → w.cell? ⟨b, off + (i * 21 + j), none⟩ = some u)
 vals : ∀ p ∈ qs, ResAt w B p.r p.v1 p.v2 p.v3 p.v4 p.xs ∧ ResOk p.r
section
variable {w w' : World} {B : Nat} {v : Value} {qs : List RQ}
theorem RsAt.keep (h : RsAt w B v qs) (hb : KeepB B 5 w w') : RsAt w' B v qs := by
 obtain ⟨⟨A, cap, e, h1, h2, h3, h4⟩, h5⟩ := h
 refine ⟨⟨A, cap, e, h1, h2, h3, fun hp => ?_⟩, fun p hp => ⟨(h5 p hp).1.keep hb, (h5 p hp).2⟩⟩
 obtain ⟨b, off, hA, hlt, hc⟩ := h4 hp
 refine ⟨b, off, hA, ⟨Nat.lt_of_lt_of_le hlt.1 hb.1, hlt.2⟩, fun i p hi j u hu => ?_⟩
 rw [World.cell?_of_block (w := w) (a := ⟨b, off + (i * 21 + j), none⟩) (hb.2 b hlt.1 (.inl hlt.2))]
 exact hc i p hi j u hu
theorem RsAt.below (h : RsAt w B v qs) (hb : Below w.heap.size w w') : RsAt w' B v qs := h.keep (KeepB.of_below hb)
theorem RsAt.cap (h : RsAt w B v qs) : ∃ A cap, v = .slice A qs.length cap ∧ qs.length ≤ cap ∧ cap ≤ maxLen := by obtain ⟨⟨A, cap, e, h1, h2, _⟩, _⟩ := h; exact ⟨A, cap, e, h1, h2⟩
theorem RsAt.at_ {A : Option Addr} {n cap : Nat} (h : RsAt w B (.slice A n cap) qs) {i : Nat} {p : RQ} (hi : qs[i]? = some p) : ∃ b off, A = some ⟨b, off, none⟩ ∧ b < w.heap.size := by
 obtain ⟨⟨A', cap', e, h1, h2, h3, h4⟩, h5⟩ := h
 injection e with e1 e2 e3
 subst e1
 have hl := (List.getElem?_eq_some_iff.1 hi).1
 obtain ⟨b, off, hA, hlt, hc⟩ := h4 (by omega)
 exact ⟨b, off, hA, hlt.1⟩
theorem RsAt.cell {q off n cap : Nat} (h : RsAt w B (.slice (some ⟨q, off, none⟩) n cap) qs) {i : Nat} {p : RQ} (hi : qs[i]? = some p) (j : Nat) (u : Value) (hu : p.c[j]? = some u) : w.cell? ⟨q, off + i * 21 + j, none⟩ = some u := by
 obtain ⟨⟨A', cap', e, h1, h2, h3, h4⟩, h5⟩ := h
 injection e with e1 e2 e3
 subst e1
 have hl := (List.getElem?_eq_some_iff.1 hi).1
 obtain ⟨b, o2, hA, hlt, hc⟩ := h4 (by omega)
 cases hA
 rw [Nat.add_assoc]
 exact hc i p hi j u hu
end
theorem start_inv (c : CfgV) : PInv 0 (start c) := by
 refine ⟨List.Pairwise.nil, ?_, List.Pairwise.nil, List.Pairwise.nil, ?_, ?_, ⟨Int.le_refl _, Int.le_refl _⟩, ?_, ⟨Int.le_refl _, ?_⟩⟩
 ·intro e he; cases he
 ·intro b
  constructor
  ·intro h; cases h
  ·rintro ⟨e, he, _⟩; cases he
 ·unfold start; rw [List.length_replicate]
 ·intro e he; cases he
 ·show (0 : Int) ≤ neverT; unfold neverT; omega
def KStart (c : CfgV) (cs : Array Value) : Prop := cs = ((((Tryz.zeroCells61.setIfInBounds 0 (.int .i64 c.count)).setIfInBounds 1 (.int .i64 c.bytes)).setIfInBounds 2 (.int .i64 c.prot)).setIfInBounds 3 (.int .u64 c.seed)).setIfInBounds 4 (.bool c.same)
theorem zero_cells (c : CfgV) : Tryz.zeroCells61.toList.drop 5 = (List.range 132).map fun i => kcell (start c) (.slice none 0 0) (.slice none 0 0) (fun _ => 0) (i + 5) := by kernel_rfl
theorem zero_size : Tryz.zeroCells61.size = 137 := by kernel_rfl
set_option maxRecDepth 100000 in
theorem kstart_at {c : CfgV} {cs : Array Value} (hcs : KStart c cs) (i : Nat) (hi : i < 137) : cs[i]? = some (kcell (start c) (.slice none 0 0) (.slice none 0 0) (fun _ => 0) i) := by
 unfold KStart at hcs
 subst hcs
 have hz := zero_size
 simp only [Array.getElem?_setIfInBounds, Array.size_setIfInBounds, hz]
 by_cases h4 : i = 4
 ·subst h4; rfl
 ·by_cases h3 : i = 3
  ·subst h3; rfl
  ·by_cases h2 : i = 2
   ·subst h2; rfl
   ·by_cases h1 : i = 1
    ·subst h1; rfl
    ·by_cases h0 : i = 0
     ·subst h0; rfl
     ·rw [if_neg (by omega), if_neg (by omega), if_neg (by omega), if_neg (by omega), if_neg (by omega)]
      have h := congrArg (fun l => l[i - 5]?) (zero_cells c)
      rw [List.getElem?_drop, List.getElem?_map, List.getElem?_range (by omega), show 5 + (i - 5) = i by omega, Option.map_some, show i - 5 + 5 = i by omega] at h
      rw [← Array.getElem?_toList]
      exact h
theorem KRep.start {w : World} {g : Nat} {c : CfgV} {cs : Array Value} (hcs : KStart c cs) (h : Blk w g 61 cs) {B : Nat} (hB : B ≤ g) : KRep w B g (.slice none 0 0) (.slice none 0 0) (fun _ => 0) (start c) [] := by
 refine ⟨⟨_, h, fun i hi => kstart_at hcs i hi⟩, World.ownsRow_nil _ _ _ _, World.ownsRow_nil _ _ _ _, rfl, fun p hp => (by cases hp), fun i b hi => ?_, hB⟩
 unfold Go.Proofs.YtnabbimompapfaaGreat.start at hi
 dsimp only at hi
 rw [List.getElem?_replicate] at hi
 split at hi <;> cases hi
theorem KS.below {B : Nat} {w W : World} (h : Only (KS B w) w W) (hB : B ≤ w.heap.size) : Below B w W := h.below (fun i hi _ hs => by have := hs.1; omega) hB
theorem jall_cons {r : ResV} {l : List ResV} {s : PJ} {i : Nat} : jall (r :: l) s i = match jstep s r with | .error x => (((i : Int), x), s) | .ok s2 => jall l s2 (i + 1) := by rw [jall]; rfl
theorem jstep_err {s : PJ} {r : ResV} {x : Int} (h : jstep s r = .error x) : x ≠ 0 := by
 have hend : ∀ {s1 : PJ} {w : WantV}, endP r s1 w = .error x → x ≠ 0 := fun {s1 w} h => by
  unfold endP at h
  split at h
  ·injection h with h; omega
  ·split at h
   ·injection h with h; omega
   ·split at h
    ·injection h with h; omega
    ·cases h
 unfold jstep at h
 split at h
 ·injection h with h; omega
 ·split at h
  ·split at h
   ·injection h with h; omega
   ·split at h
    ·injection h with h; omega
    ·split at h
     ·injection h with h; omega
     ·exact hend h
  ·split at h
   ·injection h with h; omega
   ·split at h
    ·rename_i y hev
     injection h with h
     subst h
     unfold eventsP at hev
     split at hev
     ·injection hev with h; omega
     ·split at hev
      ·injection hev with h; omega
      ·split at hev
       ·injection hev with h; omega
       ·split at hev
        ·rename_i h4
         injection hev with h
         have := evictP_err _ _ _ _ h4
         omega
        ·cases hev
    ·exact hend h
def ChkRet (x : Int × Int × Int) (w : World) (e : Ending) (w' : World) : Prop := e = .returned (.tuple #[.int .i64 x.1, .int .i64 x.2.1, .int .i64 x.2.2]) ∧ Below w.heap.size w w'
set_option maxRecDepth 100000 in
set_option maxHeartbeats 8000000 in
theorem kCheck_any (Bv : Nat) (c : CfgV) (lv : Value) (qs : List RQ) (w : World) (h : RsAt w Bv lv qs) (hBv : Bv ≤ w.heap.size) (hn : qs.length ≤ 60000) :
  Calls Tryz.prog 8 #[cfgv c, lv] w (ChkRet (checkP c (qs.map RQ.r)) w) := by
 obtain ⟨A, cap, rfl, hc, hm⟩ := h.cap
 have HR := zH h
 have HBv := zH hBv
 unfold maxLen at hm
 have hxI : (qs.length : Int) ≤ 60000 := by omega
 have hxc : (qs.length : Int) ≤ (cap : Int) := by omega
 have HN := zH hn
 unfold cfgv cfgc
 obtain ⟨ce, hce⟩ : ∃ ce, cfgP c = ce := ⟨_, rfl⟩
 have HCe := zH hce
 have HCk := zH (fun W => hce ▸ refCfg_any c W)
 clear h hBv hn hm hc hce
 go_enter Tryz.func8, Tryz.ntmps8
 go_wp2_with fail
 refine (HCk.out _).mono ?_
 rintro e w1 ⟨rfl, hb1⟩
 have HB1 : Hid (Below w.heap.size w w1) := zH (below_own hb1)
 have HC1 : Hid (Blk w1 w.heap.size 24 #[.int .i64 c.count, .int .i64 c.bytes, .int .i64 c.prot, .int .u64 c.seed, .bool c.same]) := zH ((Blk.new w _ _).below hb1)
 clear hb1
 by_cases he0 : ce = 0
 ·subst he0
  by_cases hl : (4096 : Int) < (qs.length : Int)
  ·have HS : Hid (checkP c (qs.map RQ.r) = (0, 0, 7)) := zH (by
    unfold checkP
    rw [if_neg (fun h => h HCe.out), if_pos (by rw [List.length_map]; omega)])
   go_wp2_with fail
   refine bodyPost_ret (v := .tuple #[.int .i64 (0), .int .i64 (0), .int .i64 (7)]) (by simp [results, Tryz.results8, go_sem]) rfl ⟨by rw [HS.out], HB1.out⟩
  ·have x0 : World.cell? w1 ⟨w.heap.size, 0, none⟩ = some (.int .i64 c.count) := HC1.out.cell 0 _ rfl
   have x1 : World.cell? w1 ⟨w.heap.size, 1, none⟩ = some (.int .i64 c.bytes) := HC1.out.cell 1 _ rfl
   have x2 : World.cell? w1 ⟨w.heap.size, 2, none⟩ = some (.int .i64 c.prot) := HC1.out.cell 2 _ rfl
   have x3 : World.cell? w1 ⟨w.heap.size, 3, none⟩ = some (.int .u64 c.seed) := HC1.out.cell 3 _ rfl
   have x4 : World.cell? w1 ⟨w.heap.size, 4, none⟩ = some (.bool c.same) := HC1.out.cell 4 _ rfl
   go_upto_region 7 with fail
   obtain ⟨cs, hcs⟩ : ∃ cs, KStart c cs := ⟨_, rfl⟩
   have hcs2 := hcs
   unfold KStart at hcs2
   rw [← hcs2]
   clear hcs2
   have HB2 : Hid (Below w.heap.size w (w1.alloc (.cells cs 61))) := zH (HB1.out.alloc HB1.out.size _)
   have HK2 := zH (KRep.start hcs (Blk.new w1 _ cs) HB1.out.size)
   clear hcs x0 x1 x2 x3 x4
   generalize w1.heap.size = g at HK2 ⊢
   generalize World.alloc _ _ = w2 at HB2 HK2 ⊢
   have HCp : Hid (checkP c (qs.map RQ.r) = ((jall (qs.map RQ.r) (start c) 0).1.1, (jall (qs.map RQ.r) (start c) 0).1.2, 0)) := zH (by
    unfold checkP
    rw [if_neg (fun h => h HCe.out), if_neg (by rw [List.length_map]; omega)])
   go_wp2_with fail
   go_loopw [9] (fun i wr => ∃ (k : Nat) (vL vU : Value) (pv : Nat → Int) (s : PJ) (ps : List (EntV × Value)), k ≤ qs.length ∧ i = .int .i64 k ∧ jall ((qs.drop k).map RQ.r) s k = jall (qs.map RQ.r) (start c) 0 ∧ PInv k s ∧ KRep wr w.heap.size g vL vU pv s ps ∧ Below w.heap.size w wr) (fun i _ => qs.length - (intOf i).toNat)
   case atStart => exact ⟨0, _, _, _, _, _, by omega, rfl, rfl, start_inv c, HK2.out, HB2.out⟩
   case round =>
    obtain ⟨k, vL, vU, pv, s, ps, hk, rfl, hj, hi, hkr, hbl⟩ := hrel
    have HJ := zH hj
    have HI := zH hi
    have HK := zH hkr
    have HBl := zH hbl
    clear hj hi hkr hbl
    by_cases hkl : k < qs.length
    ·obtain ⟨q, hq⟩ : ∃ q, qs[k]? = some q := ⟨_, List.getElem?_eq_getElem hkl⟩
     have HRw := zH (HR.out.keep (KeepB.of_below HBl.out))
     obtain ⟨b, off, hA, -⟩ := HRw.out.at_ hq
     subst hA
     have HQ := zH hq
     have HDr : Hid ((qs.drop k).map RQ.r = q.r :: (qs.drop (k + 1)).map RQ.r) := zH (by
      obtain ⟨h1, h2⟩ := List.getElem?_eq_some_iff.1 hq
      rw [List.drop_eq_getElem_cons h1, h2]; rfl)
     have hkI : (k : Int) < (qs.length : Int) := by omega
     have hk0 : (0 : Int) ≤ (k : Int) := by omega
     have HCl : Hid (∀ j u, (resc q.r q.v1 q.v2 q.v3 q.v4).toList[j]? = some u → wr.cell? ((⟨b, off + k * 21, none⟩ : Addr).add j) = some u) := zH (fun j u hu => by
      rw [add_plain]
      exact HRw.out.cell hq j u (by rw [← Array.getElem?_toList]; exact hu))
     have HRv := zH (HRw.out.vals q (List.mem_of_getElem? hq))
     clear hq
     go_wp2_with (refine wpList_load_at rfl 46 _ rfl ⟨b, off + k * 21, none⟩ rfl (resc q.r q.v1 q.v2 q.v3 q.v4) _ HCl.out Tryz.underlying46 rfl (by kernel_rfl) ?_)
     refine (kJudge_any w.heap.size Bv g vL vU pv s ps q.r q.v1 q.v2 q.v3 q.v4 q.xs k wr HK.out HI.out (by have := HN.out; omega) HBl.out.size HRv.out.1 HBv.out HRv.out.2).mono ?_
     rintro e w3 hret
     obtain ⟨res, hres⟩ : ∃ res, jstep s q.r = res := ⟨_, rfl⟩
     have HRes := zH hres
     rw [hres] at hret
     clear hres
     cases res with
     |error y =>
      have he := hret.2.1 y rfl
      have HB4 := zH (HBl.out.trans (KS.below hret.1 HBl.out.size))
      subst he
      have hy := jstep_err HRes.out
      have hyb : (y != 0) = true := by rw [bne_iff_ne]; exact hy
      have HS : Hid (checkP c (qs.map RQ.r) = ((k : Int), y, 0)) := zH (by
       rw [HCp.out, ← HJ.out, HDr.out, jall_cons, HRes.out])
      clear hret hy
      go_wp2_with fail
      refine bodyPost_ret (v := .tuple #[.int .i64 ((k : Int)), .int .i64 (y), .int .i64 (0)]) (by simp [results, Tryz.results8, go_sem]) rfl ⟨by rw [HS.out], HB4.out⟩
     |ok s2 =>
      obtain ⟨he, vL4, vU4, pv4, ps4, hk4⟩ := hret.2.2 s2 rfl
      have ho4 := hret.1
      subst he
      have HB4 := zH (HBl.out.trans (KS.below ho4 HBl.out.size))
      have HK4 := zH hk4
      have HJ4 : Hid (jall ((qs.drop (k + 1)).map RQ.r) s2 (k + 1) = jall (qs.map RQ.r) (start c) 0) := zH (by
       rw [← HJ.out, HDr.out, jall_cons, HRes.out])
      have HI4 := zH (jstep_inv HI.out HRv.out.2.ticks HRv.out.2.ttl HRes.out)
      clear hret hk4 ho4
      go_wp2_with fail
      go_roundw
      case rel => exact ⟨k + 1, _, _, _, _, _, by omega, by go_num, HJ4.out, HI4.out, HK4.out, HB4.out⟩
      case measure => simp [intOf]; omega
    ·obtain rfl : k = qs.length := by omega
     have HS : Hid (checkP c (qs.map RQ.r) = (-1, 0, 0)) := zH (by
      rw [HCp.out, ← HJ.out, List.drop_length]; rfl)
     go_wp2_with fail
     refine bodyPost_ret (v := .tuple #[.int .i64 ((-1)), .int .i64 (0), .int .i64 (0)]) (by simp [results, Tryz.results8, go_sem]) rfl ⟨by rw [HS.out], HBl.out⟩
 ·have heb : (ce != 0) = true := by simp [he0]
  have HS : Hid (checkP c (qs.map RQ.r) = (0, 0, ce)) := zH (by
   unfold checkP
   rw [if_pos (by rw [HCe.out]; exact he0), HCe.out])
  go_wp2_with fail
  refine bodyPost_ret (v := .tuple #[.int .i64 (0), .int .i64 (0), .int .i64 (ce)]) (by simp [results, Tryz.results8, go_sem]) rfl ⟨by rw [HS.out], HB1.out⟩
end Go.Proofs.YtnabbimompapfaaGreat
namespace Go.Proofs.YtnabbimompapfaaGreat
open Go Go.RowKit
def cmpI (a b : Int) : Int := if a < b then -1 else if b < a then 1 else 0
theorem isNaN_u64 (a : Int) (w : World) : Calls Tryz.prog 64 #[.int .u64 a] w fun e w' => e = .returned (.bool false) ∧ w = w' := by
 go_enter Tryz.func64, Tryz.ntmps64
 go_wp2_with fail
 go_ret
 exact ⟨rfl, rfl⟩
theorem isNaN_time (a : Int) (w : World) : Calls Tryz.prog 106 #[.int .u64 a] w fun e w' => e = .returned (.bool false) ∧ w = w' := by
 go_enter Tryz.func106, Tryz.ntmps106
 go_wp2_with fail
 go_ret
 exact ⟨rfl, rfl⟩
set_option maxHeartbeats 1000000 in
theorem cmp_u64 (a b : Int) (w : World) : Calls Tryz.prog 40 #[.int .u64 a, .int .u64 b] w fun e w' => e = .returned (.int .i64 (cmpI a b)) ∧ w = w' := by
 have HN := zH (fun x W => isNaN_u64 x W)
 by_cases h1 : a < b
 ·have HS := zH (show cmpI a b = -1 by unfold cmpI; rw [if_pos h1])
  go_enter Tryz.func40, Tryz.ntmps40
  go_wp2_with fail
  refine (HN.out _ _).mono ?_
  rintro e w1 ⟨rfl, hw⟩
  subst hw
  go_wp2_with fail
  refine (HN.out _ _).mono ?_
  rintro e w1 ⟨rfl, hw⟩
  subst hw
  go_wp2_with fail
  go_ret
  first | exact ⟨by rw [HS.out]; rfl, rfl⟩ | exact ⟨rfl, rfl⟩
 ·by_cases h2 : b < a
  ·have HS := zH (show cmpI a b = 1 by unfold cmpI; rw [if_neg h1, if_pos h2])
   go_enter Tryz.func40, Tryz.ntmps40
   go_wp2_with fail
   refine (HN.out _ _).mono ?_
   rintro e w1 ⟨rfl, hw⟩
   subst hw
   go_wp2_with fail
   refine (HN.out _ _).mono ?_
   rintro e w1 ⟨rfl, hw⟩
   subst hw
   go_wp2_with fail
   go_ret
   first | exact ⟨by rw [HS.out]; rfl, rfl⟩ | exact ⟨rfl, rfl⟩
  ·have HS := zH (show cmpI a b = 0 by unfold cmpI; rw [if_neg h1, if_neg h2])
   go_enter Tryz.func40, Tryz.ntmps40
   go_wp2_with fail
   refine (HN.out _ _).mono ?_
   rintro e w1 ⟨rfl, hw⟩
   subst hw
   go_wp2_with fail
   refine (HN.out _ _).mono ?_
   rintro e w1 ⟨rfl, hw⟩
   subst hw
   go_wp2_with fail
   go_ret
   first | exact ⟨by rw [HS.out]; rfl, rfl⟩ | exact ⟨rfl, rfl⟩
set_option maxHeartbeats 1000000 in
theorem cmp_time (a b : Int) (w : World) : Calls Tryz.prog 92 #[.int .u64 a, .int .u64 b] w fun e w' => e = .returned (.int .i64 (cmpI a b)) ∧ w = w' := by
 have HN := zH (fun x W => isNaN_time x W)
 by_cases h1 : a < b
 ·have HS := zH (show cmpI a b = -1 by unfold cmpI; rw [if_pos h1])
  go_enter Tryz.func92, Tryz.ntmps92
  go_wp2_with fail
  refine (HN.out _ _).mono ?_
  rintro e w1 ⟨rfl, hw⟩
  subst hw
  go_wp2_with fail
  refine (HN.out _ _).mono ?_
  rintro e w1 ⟨rfl, hw⟩
  subst hw
  go_wp2_with fail
  go_ret
  first | exact ⟨by rw [HS.out]; rfl, rfl⟩ | exact ⟨rfl, rfl⟩
 ·by_cases h2 : b < a
  ·have HS := zH (show cmpI a b = 1 by unfold cmpI; rw [if_neg h1, if_pos h2])
   go_enter Tryz.func92, Tryz.ntmps92
   go_wp2_with fail
   refine (HN.out _ _).mono ?_
   rintro e w1 ⟨rfl, hw⟩
   subst hw
   go_wp2_with fail
   refine (HN.out _ _).mono ?_
   rintro e w1 ⟨rfl, hw⟩
   subst hw
   go_wp2_with fail
   go_ret
   first | exact ⟨by rw [HS.out]; rfl, rfl⟩ | exact ⟨rfl, rfl⟩
  ·have HS := zH (show cmpI a b = 0 by unfold cmpI; rw [if_neg h1, if_neg h2])
   go_enter Tryz.func92, Tryz.ntmps92
   go_wp2_with fail
   refine (HN.out _ _).mono ?_
   rintro e w1 ⟨rfl, hw⟩
   subst hw
   go_wp2_with fail
   refine (HN.out _ _).mono ?_
   rintro e w1 ⟨rfl, hw⟩
   subst hw
   go_wp2_with fail
   go_ret
   first | exact ⟨by rw [HS.out]; rfl, rfl⟩ | exact ⟨rfl, rfl⟩
def orI (a b : Int) : Int := if a = 0 then b else a
def OrR (a c : Int) (i : Value) : Prop := (i = .int .i64 0) ∨ (i = .int .i64 1 ∧ a = 0) ∨ (i = .int .i64 2 ∧ a = 0 ∧ c = 0)
set_option maxHeartbeats 1000000 in
theorem or_any (a c : Int) (b : Nat) (w : World) (h : Blk w b 3 #[.int .i64 a, .int .i64 c]) :
  Calls Tryz.prog 91 #[.slice (some ⟨b, 0, none⟩) 2 2] w fun e w' => e = .returned (.int .i64 (orI a c)) ∧ w = w' := by
 have x0 : w.cell? ⟨b, 0, none⟩ = some (.int .i64 a) := h.cell 0 _ rfl
 have x1 : w.cell? ⟨b, 1, none⟩ = some (.int .i64 c) := h.cell 1 _ rfl
 clear h
 go_enter Tryz.func91, Tryz.ntmps91
 go_wp2_with fail
 go_loopw [8] (fun i wr => OrR a c i ∧ wr = w) (fun i _ => 2 - (intOf i).toNat)
 case atStart => exact ⟨.inl rfl, rfl⟩
 case round =>
  obtain ⟨hr, hww⟩ := hrel
  obtain rfl : w = wr := hww.symm
  rcases hr with rfl | ⟨rfl, rfl⟩ | ⟨rfl, rfl, rfl⟩
  ·by_cases ha : a = 0
   ·subst ha
    go_wp2_with fail
    go_roundw
    case rel => exact ⟨.inr (.inl ⟨rfl, rfl⟩), trivial⟩
    case measure => simp [intOf]
   ·have hab : (a != 0) = true := by simp [ha]
    have HS := zH (show orI a c = a by unfold orI; rw [if_neg ha])
    clear ha
    go_wp2_with fail
    go_ret
    exact ⟨by rw [HS.out]; rfl, rfl⟩
  ·by_cases hc : c = 0
   ·subst hc
    go_wp2_with fail
    go_roundw
    case rel => exact ⟨.inr (.inr ⟨rfl, rfl, rfl⟩), trivial⟩
    case measure => simp [intOf]
   ·have hcb : (c != 0) = true := by simp [hc]
    have HS := zH (show orI 0 c = c by unfold orI; rw [if_pos rfl])
    clear hc
    go_wp2_with fail
    go_ret
    exact ⟨by rw [HS.out]; rfl, rfl⟩
  ·go_wp2_with fail
   go_ret
   exact ⟨rfl, rfl⟩
def itc (e : EntV) (v : Value) (u : Int) (cost : Int) : Array Value := #[.string e.key, v, .int .u64 e.dl, .int .u64 e.birth, .int .i64 u, .int .i64 cost]
structure ItAt (w : World) (g : Nat) (e : EntV) (v : Value) (u cost : Int) : Prop where
 blk : Blk w g 69 (itc e v u cost)
theorem ItAt.cells {w : World} {g : Nat} {e : EntV} {v : Value} {u cost : Int} (h : ItAt w g e v u cost) : w.cell? ⟨g, 0, none⟩ = some (.string e.key) ∧ w.cell? ⟨g, 1, none⟩ = some v ∧ w.cell? ⟨g, 2, none⟩ = some (.int .u64 e.dl) ∧ w.cell? ⟨g, 3, none⟩ = some (.int .u64 e.birth) ∧ w.cell? ⟨g, 4, none⟩ = some (.int .i64 u) ∧ w.cell? ⟨g, 5, none⟩ = some (.int .i64 cost) :=
 ⟨h.blk.cell 0 _ rfl, h.blk.cell 1 _ rfl, h.blk.cell 2 _ rfl, h.blk.cell 3 _ rfl, h.blk.cell 4 _ rfl, h.blk.cell 5 _ rfl⟩
set_option maxHeartbeats 2000000 in
theorem byBirth_any (g1 g2 : Nat) (e1 e2 : EntV) (v1 v2 : Value) (u1 u2 c1 c2 : Int) (w : World) (h1 : ItAt w g1 e1 v1 u1 c1) (h2 : ItAt w g2 e2 v2 u2 c2) :
  Calls Tryz.prog 19 #[.pointer (some ⟨g1, 0, none⟩), .pointer (some ⟨g2, 0, none⟩)] w fun e w' => e = .returned (.int .i64 (cmpI e1.birth e2.birth)) ∧ ∃ q, w' = w.drewN q := by
 obtain ⟨-, -, -, x3, -, -⟩ := h1.cells
 obtain ⟨-, -, -, y3, -, -⟩ := h2.cells
 clear h1 h2
 go_enter Tryz.func19, Tryz.ntmps19
 go_wp2_with fail
 go_quiet ((go_at_call 40; exact Calls.quiet_of_same ((cmp_u64 _ _ _).mono fun e w' h => ⟨h.1, h.2.symm⟩)))
 go_wp2_with fail
 go_ret
 exact ⟨rfl, nq, rfl⟩
def cmpD (a b : EntV) : Int := orI (cmpI a.dl b.dl) (cmpI a.birth b.birth)
structure TwoI (W : World) (g1 g2 : Nat) (e1 e2 : EntV) (v1 v2 : Value) (u1 u2 c1 c2 : Int) : Prop where
 a : ItAt W g1 e1 v1 u1 c1
 b : ItAt W g2 e2 v2 u2 c2
theorem TwoI.below {W W2 : World} {g1 g2 : Nat} {e1 e2 : EntV} {v1 v2 : Value} {u1 u2 c1 c2 : Int} (h : TwoI W g1 g2 e1 e2 v1 v2 u1 u2 c1 c2) (hb : Below W.heap.size W W2) : TwoI W2 g1 g2 e1 e2 v1 v2 u1 u2 c1 c2 := ⟨⟨h.a.blk.below hb⟩, ⟨h.b.blk.below hb⟩⟩
theorem below_drewN {w W : World} {B : Nat} (h : Below B w W) (n : Nat) : Below B w (W.drewN n) := ⟨h.os, h.tape, h.output, h.size, h.block⟩
set_option maxHeartbeats 2000000 in
theorem byDeadline_any (g1 g2 : Nat) (e1 e2 : EntV) (v1 v2 : Value) (u1 u2 c1 c2 : Int) (w : World) (h1 : ItAt w g1 e1 v1 u1 c1) (h2 : ItAt w g2 e2 v2 u2 c2) :
  Calls Tryz.prog 69 #[.pointer (some ⟨g1, 0, none⟩), .pointer (some ⟨g2, 0, none⟩)] w fun e w' => e = .returned (.int .i64 (cmpD e1 e2)) ∧ Below w.heap.size w w' := by
 have HT : Hid (TwoI w g1 g2 e1 e2 v1 v2 u1 u2 c1 c2) := zH ⟨h1, h2⟩
 clear h1 h2
 go_enter Tryz.func69, Tryz.ntmps69
 go_wp2_with fail
 refine wp_region_noPanic ?_
 refine wp_region_held_drew (S := fun W => TwoI W g1 g2 e1 e2 v1 v2 u1 u2 c1 c2) (by kernel_rfl) (HT.out.below (zL _ _).drew) (fun hHeld => ?_)
 have HB1 : Hid (Below w.heap.size w w.drew) := zH (zL _ _).drew
 generalize w.drew = W1 at hHeld HB1 ⊢
 have H1 := zH hHeld
 refine Pl.go [0, 1, 2, 3, 4, 5, 6, 7, 8, 9] ?_
 iterate 10
  refine tkl (v := ?_) ?_ ?_
  rotate_left 1
  ·intro W hSw
   obtain ⟨-, -, x2, x3, -, -⟩ := hSw.a.cells; obtain ⟨-, -, y2, y3, -, -⟩ := hSw.b.cells
   clear hSw
   go_simp
   try with_reducible rfl
  try dsimp only [zS, zB, zC]
 refine Pl.stop ?_
 refine Pl.go [11, 12] ?_
 iterate 2
  refine tkl (v := ?_) ?_ ?_
  rotate_left 1
  ·intro W hSw
   obtain ⟨-, -, x2, x3, -, -⟩ := hSw.a.cells; obtain ⟨-, -, y2, y3, -, -⟩ := hSw.b.cells
   clear hSw
   go_simp
   try with_reducible rfl
  try dsimp only [zS, zB, zC]
 refine Pl.stop ?_
 refine wpAnyH_ready (rs := [10]) (by kernel_rfl) (by simp) ?_
 refine AllReadyH.cons (o := ⟨_, _, _, _, _, _⟩) rfl (fun F hF => ?_) AllReadyH.nil
 go_simp
 refine (cmp_time e1.dl e2.dl W1).mono ?_
 rintro e w2 ⟨rfl, hw⟩
 subst hw
 go_wp2_with fail
 refine hF.out _ _ H1.out (fun hHeld => ?_)
 clear hF F
 try simp only [Act.put, zA, zB, zC]
 refine wpAnyH_ready (rs := [13]) (by kernel_rfl) (by simp) ?_
 refine AllReadyH.cons (o := ⟨_, _, _, _, _, _⟩) rfl (fun F hF => ?_) AllReadyH.nil
 go_simp
 refine (byBirth_any g1 g2 e1 e2 v1 v2 u1 u2 c1 c2 W1 H1.out.a H1.out.b).mono ?_
 rintro e w2 ⟨rfl, q, rfl⟩
 have H2 := zH (H1.out.below (below_drewN (zL _ _) q))
 have HB2 := zH (below_drewN HB1.out q)
 generalize W1.drewN q = W2 at H2 HB2 ⊢
 clear hHeld H1 HB1
 go_wp2_with fail
 refine hF.out _ _ H2.out (fun hHeld => ?_)
 clear hF F
 try simp only [Act.put, zA, zB, zC]
 refine wpAnyH_ready (rs := [14]) (by kernel_rfl) (by simp) ?_
 refine AllReadyH.cons (o := ⟨_, _, _, _, _, _⟩) rfl (fun F hF => ?_) AllReadyH.nil
 go_simp
 have H3 := zH (H2.out.below ((zL _ _).alloc (zN _) (.cells #[.int .i64 (cmpI e1.dl e2.dl), .int .i64 (cmpI e1.birth e2.birth)] 3)))
 have HB3 := zH (HB2.out.alloc HB2.out.size (.cells #[.int .i64 (cmpI e1.dl e2.dl), .int .i64 (cmpI e1.birth e2.birth)] 3))
 have HO3 := zH (Blk.new W2 3 #[.int .i64 (cmpI e1.dl e2.dl), .int .i64 (cmpI e1.birth e2.birth)])
 refine hF.out _ _ H3.out (fun hHeld => ?_)
 clear hF F
 try simp only [Act.put, zA, zB, zC]
 generalize W2.heap.size = gB at HO3 ⊢
 generalize W2.alloc _ = W3 at H3 HB3 HO3 hHeld ⊢
 refine wpAnyH_ready (rs := [15]) (by kernel_rfl) (by simp) ?_
 refine AllReadyH.cons (o := ⟨_, _, _, _, _, _⟩) rfl (fun F hF => ?_) AllReadyH.nil
 go_simp
 refine (or_any _ _ gB W3 HO3.out).mono ?_
 rintro e w2 ⟨rfl, hw⟩
 subst hw
 go_wp2_with fail
 refine hF.out _ _ H3.out (fun hHeld => ?_)
 clear hF F
 try simp only [Act.put, zA, zB, zC]
 refine tk 16 (v := ?_) ?_ ?_
 rotate_left 1
 ·intro W hSw
  skip
  clear hSw
  go_simp
  try with_reducible rfl
 try dsimp only [zS, zB, zC]
 refine wpAnyH_done (by kernel_rfl) ?_ _
 refine NoPanic.normal ?_
 go_wp2_with fail
 go_ret
 exact ⟨rfl, HB3.out⟩
end Go.Proofs.YtnabbimompapfaaGreat

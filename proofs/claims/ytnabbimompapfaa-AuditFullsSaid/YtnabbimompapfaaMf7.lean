/- AudJS, AudJT, AudJU, AudJV, AudJW -/
import Derived.Test.YtnabbimompapfaaMf6
import Derived.Test.YtnabbimompapfaaMf3
namespace Go.Proofs.Ytnabbimompapfaa
open Go Go.RowKit
set_option maxHeartbeats 1000000 in
theorem exp1_any (v : EvV) (A : Option Addr) (n c : Nat) (w : World) : Calls Try.prog 49 #[evv v (.slice A n c)] w fun e w' => e = .returned (.bool (v.kind == 1)) ∧ Gr w w' := by
 unfold evv evc
 go_enter Try.func49, Try.ntmps49
 go_wp2_with fail
 go_ret
 exact ⟨rfl, (Gr.refl _).alloc _⟩
def IdxE (xs : List (EvV × Value)) (r : Int) : Prop := (r = -1 ∧ noExp (xs.map Prod.fst) = true) ∨ (0 ≤ r ∧ noExp (xs.map Prod.fst) = false)
set_option maxRecDepth 100000 in
set_option maxHeartbeats 2000000 in
theorem idxE_any (B : Nat) (A : Option Addr) (n c : Nat) (xs : List (EvV × Value)) (w : World) (h : EvsAt w B (.slice A n c) xs) (hn : n = xs.length) (hc : n ≤ c) (hm : n ≤ maxLen) :
  Calls Try.prog 71 #[.slice A n c, .func (.func 49) #[] #[]] w fun e w' => ∃ r, e = .returned (.int .i64 r) ∧ IdxE xs r ∧ Gr w w' := by
 have HH := zH h
 have HN := zH hn
 unfold maxLen at hm
 have hnI : (n : Int) ≤ 9223372036854775807 := by omega
 have hcI : (n : Int) ≤ (c : Int) := by omega
 have eg : ∀ args w, (callFunc 49 args).run Try.prog w = .ok (.enter 49 args) w := enters_of Try.func49 (by kernel_rfl) rfl
 clear h hn hm
 go_enter Try.func71, Try.ntmps71
 go_wp2_with fail
 go_loopw [5, 8] (fun _ i wr => ∃ k : Nat, k ≤ n ∧ i = .int .i64 k ∧ Gr w wr ∧ ∀ (j : Nat) (p : EvV × Value), j < k → xs[j]? = some p → p.1.kind ≠ 1) (fun _ i _ => n - (intOf i).toNat)
 case atStart => exact ⟨0, Nat.zero_le _, rfl, Gr.refl _, fun j p hj => absurd hj (Nat.not_lt_zero _)⟩
 case round =>
  obtain ⟨k, hk, rfl, hg, hno⟩ := hrel
  have HG := zH hg
  have HNo := zH hno
  have HK := HH.out.below hg.below
  clear hg hno
  by_cases hlt : k < n
  ·have hltz : (k : Int) < (n : Int) := by omega
   obtain ⟨⟨x, V⟩, hp⟩ : ∃ p, xs[k]? = some p := ⟨_, List.getElem?_eq_getElem (by rw [← HN.out]; exact hlt)⟩
   obtain ⟨q, off, rfl, -, y0, y1, y2, y3, y4, y5⟩ := HK.at_ hp
   obtain ⟨VA, vc, hV⟩ := (HK.vals _ (List.mem_of_getElem? hp)).form
   have HP := zH hp
   dsimp only at y0 y1 y2 y3 y4 y5 hV
   rw [hV] at y2
   have HE := zH (fun W => exp1_any x VA x.val.length vc W)
   unfold evv evc at HE
   clear hp hV HK
   by_cases hkd : x.kind = 1
   ·have hkb : (x.kind == 1) = true := by simp [hkd]
    have HS : Hid (noExp (xs.map Prod.fst) = false) := zH (by
     unfold noExp
     rw [List.all_eq_false]
     exact ⟨x, List.mem_map.2 ⟨(x, V), List.mem_of_getElem? HP.out, rfl⟩, by simp [hkd]⟩)
    clear hkd
    go_wp2_with fail
    refine (HE.out _).mono ?_
    rintro e w2 ⟨he, hg2⟩
    rw [hkb] at he
    subst he
    have HG2 := zH (HG.out.trans hg2)
    clear hg2
    go_wp2_with fail
    go_ret
    exact ⟨_, rfl, .inr ⟨by omega, HS.out⟩, HG2.out⟩
   ·have hkb : (x.kind == 1) = false := by simp [hkd]
    have HKd := zH hkd
    clear hkd
    go_wp2_with fail
    refine (HE.out _).mono ?_
    rintro e w2 ⟨he, hg2⟩
    rw [hkb] at he
    subst he
    have HG2 := zH (HG.out.trans hg2)
    clear hg2
    go_wp2_with fail
    go_roundw
    case rel =>
     refine ⟨k + 1, by omega, by go_num, HG2.out, fun j p hj hp => ?_⟩
     by_cases e : j = k
     ·subst e
      rw [HP.out] at hp
      injection hp with hp
      rw [← hp]; exact HKd.out
     ·exact HNo.out j p (by omega) hp
    case measure => simp [intOf]; omega
  ·obtain rfl : k = n := by omega
   have HS : Hid (noExp (xs.map Prod.fst) = true) := zH (by
    unfold noExp
    rw [List.all_eq_true]
    intro x hx
    obtain ⟨p, hp, rfl⟩ := List.mem_map.1 hx
    obtain ⟨j, hj⟩ := List.getElem?_of_mem hp
    have hjl := (List.getElem?_eq_some_iff.1 hj).1
    have := HNo.out j p (by rw [← HN.out] at hjl; exact hjl) hj
    simpa using this)
   go_wp2_with fail
   go_ret
   exact ⟨_, rfl, .inl ⟨rfl, HS.out⟩, HG.out⟩
set_option maxHeartbeats 1000000 in
theorem expired_any (B : Nat) (v : Value) (xs : List (EvV × Value)) (w : World) (h : EvsAt w B v xs) :
  Calls Try.prog 28 #[v] w fun e w' => e = .returned (.bool (!noExp (xs.map Prod.fst))) ∧ Below w.heap.size w w' := by
 obtain ⟨A, cap, rfl, hc, hm⟩ := h.cap
 have HI := zH (idxE_any B A xs.length cap xs w h rfl hc (by omega))
 have hcI : (xs.length : Int) ≤ (cap : Int) := by omega
 have HC : Hid (Calls Try.prog 48 #[.slice A xs.length cap, .func (.func 49) #[] #[]] w fun e w' => e = .returned (.bool (!noExp (xs.map Prod.fst))) ∧ Below w.heap.size w w') := by
  refine zH ?_
  clear h
  generalize hq : noExp (xs.map Prod.fst) = q
  have HQ := zH hq
  clear hq
  go_enter Try.func48, Try.ntmps48
  go_wp2_with fail
  refine HI.out.mono ?_
  rintro e w1 ⟨r, rfl, hidx, hg⟩
  have HG := zH hg.below
  rcases hidx with ⟨rfl, h1⟩ | ⟨h0, h1⟩
  ·have : q = true := by rw [← HQ.out]; exact h1
   subst this
   clear h1 hg
   go_wp2_with fail
   go_ret
   exact ⟨rfl, HG.out⟩
  ·have : q = false := by rw [← HQ.out]; exact h1
   subst this
   have hd : decide (r ≥ 0) = true := decide_eq_true h0
   clear h1 hg
   go_wp2_with fail
   go_ret
   first | exact ⟨rfl, HG.out⟩ | exact ⟨by simp [hd], HG.out⟩
 clear h HI
 generalize (!noExp (xs.map Prod.fst)) = q at HC ⊢
 go_enter Try.func28, Try.ntmps28
 go_wp2_with fail
 refine HC.out.mono ?_
 rintro e w1 ⟨rfl, hb⟩
 go_wp2_with fail
 go_ret
 exact ⟨rfl, hb⟩
end Go.Proofs.Ytnabbimompapfaa
namespace Go.Proofs.Ytnabbimompapfaa
open Go Go.RowKit Go.MapKept Go.Maps
structure LOk (s : PJ) : Prop where
 asc : (s.L.map EntV.birth).Pairwise (· < ·)
 ok : ∀ e ∈ s.L, e.key.size ≤ 250 ∧ e.val.length ≤ 65536
 len : s.L.length ≤ 100000
theorem LOk.gone {s : PJ} (h : LOk s) (b : Int) : LOk (goneP s b) :=
 ⟨h.asc.sublist (List.filter_sublist.map _), fun e he => h.ok e (List.mem_filter.1 he).1, Nat.le_trans (List.length_filter_le _ _) h.len⟩
theorem LOk.costs {s : PJ} (h : LOk s) {e : EntV} (he : e ∈ s.L) : e.key.size ≤ maxLen ∧ costP s.L ≤ 1000000000000 ∧ 0 ≤ costP s.L - costE e ∧ 0 ≤ costE e := by
 have h1 := costP_bound h.ok
 have h2 := costP_bound (h.gone e.birth).ok
 have h3 := costP_gone h.asc he
 have h4 := h.ok e he
 have h5 := h.len
 refine ⟨by unfold maxLen; omega, by omega, ?_, by unfold costE; omega⟩
 have : (goneP s e.birth).L = s.L.filter fun x => decide (x.birth ≠ e.birth) := rfl
 rw [this] at h2
 omega
theorem LOk.of {n : Nat} {s : PJ} (h : PInv n s) (hn : n ≤ 100000) : LOk s :=
 ⟨h.asc, fun e he => ⟨by have := (h.ok e he).1; unfold keyOK at this; have := of_decide_eq_true this; omega, (h.ok e he).2.1⟩, Nat.le_trans h.lenL hn⟩
def leftS (k : Int) (s : PJ) (xs : List It) : PJ := if k = 3 then s else xs.foldl (fun s x => goneP s x.e.birth) s
def leftI (k : Int) (its : List It) (xs : List It) : List It := if k = 3 then its else xs.foldl (fun its x => dropI its x.e.key) its
theorem leftS_nil (k : Int) (s : PJ) : leftS k s [] = s := by unfold leftS; split <;> rfl
theorem leftI_nil (k : Int) (its : List It) : leftI k its [] = its := by unfold leftI; split <;> rfl
theorem leftS_snoc (k : Int) (s : PJ) (xs : List It) (x : It) : leftS k s (xs ++ [x]) = if k = 3 then leftS k s xs else goneP (leftS k s xs) x.e.birth := by
 unfold leftS
 split
 ·rfl
 ·rw [List.foldl_append]; rfl
theorem leftI_snoc (k : Int) (its : List It) (xs : List It) (x : It) : leftI k its (xs ++ [x]) = if k = 3 then leftI k its xs else dropI (leftI k its xs) x.e.key := by
 unfold leftI
 split
 ·rfl
 ·rw [List.foldl_append]; rfl
theorem leftS_now (k : Int) (s : PJ) (xs : List It) : (leftS k s xs).now = s.now := by
 unfold leftS
 split
 ·rfl
 ·induction xs generalizing s with
  |nil => rfl
  |cons x xs ih => rw [List.foldl_cons, ih]; rfl
theorem leftS_ok (k : Int) {s : PJ} (h : LOk s) (xs : List It) : LOk (leftS k s xs) := by
 unfold leftS
 split
 ·exact h
 ·induction xs generalizing s with
  |nil => exact h
  |cons x xs ih => exact ih (h.gone x.e.birth)
theorem mem_dropIs {its : List It} {x : It} : ∀ {l : List It}, x ∈ its → (∀ y ∈ l, x.e.key ≠ y.e.key) → x ∈ l.foldl (fun its x => dropI its x.e.key) its := by
 intro l
 induction l generalizing its with
 |nil => intro h _; exact h
 |cons y l ih =>
  intro h hn
  exact ih (List.mem_filter.2 ⟨h, decide_eq_true (hn y (List.mem_cons_self ..))⟩) (fun z hz => hn z (List.mem_cons_of_mem _ hz))
theorem mem_leftI {k : Int} {its : List It} {x : It} {l : List It} (h : x ∈ its) (hn : ∀ y ∈ l, x.e.key ≠ y.e.key) : x ∈ leftI k its l := by
 unfold leftI
 split
 ·exact h
 ·exact mem_dropIs h hn
theorem nodup_take {xs : List It} (h : (xs.map fun x => x.e.key).Nodup) {m : Nat} {x : It} (hx : xs[m]? = some x) : ∀ y ∈ xs.take m, x.e.key ≠ y.e.key := by
 have e : xs = xs.take m ++ (x :: xs.drop (m + 1)) := by
  have hl := (List.getElem?_eq_some_iff.1 hx).1
  have hx2 := (List.getElem?_eq_some_iff.1 hx).2
  rw [← hx2, List.getElem_cons_drop, List.take_append_drop]
 rw [e, List.map_append, List.nodup_append] at h
 intro y hy he
 exact h.2.2 _ (List.mem_map_of_mem hy) x.e.key (by simp) he.symm
theorem PRow.kj {w w' : World} {B Br : Nat} {A : Option Addr} {n c : Nat} {bs : List Nat} (h : PRow w Br A n c bs) (ho : Only (KJ B w) w w') : PRow w' Br A n c bs := by
 refine ⟨h.len, h.cap, h.small, ?_⟩
 rcases h.row with e | ⟨g, h1, h2, ⟨cs, h3⟩, h4⟩
 ·exact .inl e
 ·have hn : ¬ KJ B w g := KJ.not_ h3 (by decide) (by decide)
  have hb := ho.block g h3.lt hn
  refine .inr ⟨g, h1, h2, ⟨cs, hb.trans h3⟩, fun i b hi => ?_⟩
  obtain ⟨c1, c2⟩ := h4 i b hi
  exact ⟨(World.cell?_of_block (w := w) (a := ⟨g, i, none⟩) hb).trans c1, by rw [World.frozen?, hb]; exact c2⟩
theorem EvsAt.drop1 {w : World} {B n cap : Nat} {A : Option Addr} {p : EvV × Value} {xs : List (EvV × Value)} (h : EvsAt w B (.slice A n cap) (p :: xs)) : EvsAt w B (.slice (if cap = 1 then A else Option.map (fun x => { block := x.block, off := x.off + 6 }) A) (n - 1) (cap - 1)) xs := h.dropA 1 (by simp)
def LeaveRet (B Bv g gm gp : Nat) (us : Int) (s : PJ) (its : List It) (P : List (Int × Int)) (k : Int) (xs : List It) (evs : List (EvV × Value)) (w : World) (e : Ending) (w' : World) : Prop :=
 Only (KJ B w) w w' ∧ ((stripP (xs.map fun x => eventP k x.e s.now) (evs.map Prod.fst) = none ∧ e = .returned (.tuple #[.slice none 0 0, .bool false])) ∨
  ∃ (lv : Value) (rest : List (EvV × Value)), stripP (xs.map fun x => eventP k x.e s.now) (evs.map Prod.fst) = some (rest.map Prod.fst) ∧ e = .returned (.tuple #[lv, .bool true]) ∧ EvsAt w' Bv lv rest ∧ JRep w' B g gm gp us (leftS k s xs) (leftI k its xs) P)
set_option maxRecDepth 100000 in
set_option maxHeartbeats 4000000 in
theorem leave_any (B Bv Br g gm gp : Nat) (us : Int) (s : PJ) (its : List It) (P : List (Int × Int)) (k : Int) (xs : List It) (evs : List (EvV × Value)) (lv : Value) (A : Option Addr) (n c : Nat) (w : World)
  (h : JRep w B g gm gp us s its P) (hk : LOk s) (hxs : ∀ x ∈ xs, x ∈ its) (hnd : (xs.map fun x => x.e.key).Nodup) (hr : PRow w Br A n c (xs.map It.b)) (he : EvsAt w Bv lv evs) (hBv : Bv ≤ B) :
  Calls Try.prog 43 #[.pointer (some ⟨g, 0, none⟩), lv, .int .i64 k, .slice A n c] w (LeaveRet B Bv g gm gp us s its P k xs evs w) := by
 have hn := hr.small
 have hlen : n = xs.length := by have := hr.len; rwa [List.length_map] at this
 have HL := zH hlen
 have HJ := zH h
 have HK := zH hk
 have HX := zH hxs
 have HN := zH hnd
 have HR := zH hr
 have HE := zH he
 obtain ⟨A0, c0, rfl⟩ := he.slice
 clear h hk hxs hnd hr he hlen
 go_enter Try.func43, Try.ntmps43
 go_wp2_with fail
 go_loopw [1, 11, 14] (fun lv _ i wr => ∃ m : Nat, m ≤ n ∧ i = .int .i64 m ∧ Only (KJ B w) w wr ∧ EvsAt wr Bv lv (evs.drop m) ∧ JRep wr B g gm gp us (leftS k s (xs.take m)) (leftI k its (xs.take m)) P ∧
  stripP (xs.map fun x => eventP k x.e s.now) (evs.map Prod.fst) = stripP ((xs.drop m).map fun x => eventP k x.e s.now) ((evs.drop m).map Prod.fst)) (fun _ _ i _ => n - (intOf i).toNat)
 case atStart => exact ⟨0, Nat.zero_le _, rfl, Only.refl _ _, HE.out, by rw [List.take_zero, leftS_nil, leftI_nil]; exact HJ.out, rfl⟩
 case round =>
  obtain ⟨m, hm, rfl, ho, hev, hj, hst⟩ := hrel
  have HO := zH ho
  have HEv := zH hev
  have HJm := zH hj
  have HSt := zH hst
  clear ho hev hj hst HE HJ
  by_cases hlt : m < n
  ·have hltz : (m : Int) < (n : Int) := by omega
   obtain ⟨gr, x, rfl, _, hgl, hx, hcell⟩ := (HR.out.kj HO.out).at_ hlt
   unfold ptrI at hcell
   have hcap : (n : Int) ≤ (c : Int) := by have := HR.out.cap; omega
   have hdx : xs.drop m = x :: xs.drop (m + 1) := by
    have hx2 := (List.getElem?_eq_some_iff.1 hx).2
    rw [← hx2, List.getElem_cons_drop]
   have htx : xs.take (m + 1) = xs.take m ++ [x] := by rw [List.take_add_one, hx]; rfl
   have hxm : x ∈ leftI k its (xs.take m) := mem_leftI (HX.out x (List.mem_of_getElem? hx)) (nodup_take HN.out hx)
   have HXm := zH hxm
   have HDx := zH hdx
   have HTx := zH htx
   clear hdx htx hxm hx hgl
   obtain ⟨eds, heds⟩ : ∃ l, evs.drop m = l := ⟨_, rfl⟩
   cases eds with
   |nil =>
    have hev := HEv.out
    rw [heds] at hev
    obtain ⟨A1, c1, rfl⟩ := hev.slice
    have HS : Hid (stripP (xs.map fun x => eventP k x.e s.now) (evs.map Prod.fst) = none) := zH (by rw [HSt.out, heds, HDx.out]; rfl)
    clear heds hev HEv
    rw [List.length_nil]
    go_wp2_with fail
    go_ret2
    exact ⟨HO.out, .inl ⟨HS.out, rfl⟩⟩
   |cons p rest =>
    obtain ⟨v, V⟩ := p
    have hev := HEv.out
    rw [heds] at hev
    obtain ⟨A1, c1, rfl⟩ := hev.slice
    obtain ⟨b1, off, rfl, -, hcp, -⟩ := hev.tail
    obtain ⟨b2, off2, hA2, -, y0, y1, y2, y3, y4, y5⟩ := hev.at_ (i := 0) (p := (v, V)) rfl
    injection hA2 with hA2
    injection hA2 with hb hof
    subst hb hof
    obtain ⟨VA, vc, hV⟩ := (hev.vals _ (List.mem_cons_self ..)).form
    have hbt := hev.vals _ (List.mem_cons_self ..)
    dsimp only at y0 y1 y2 y3 y4 y5 hV hbt
    subst hV
    simp only [Nat.zero_mul, Nat.add_zero] at y0 y1 y2 y3 y4 y5
    obtain ⟨ne, hne⟩ : ∃ ne, ((v, Value.slice VA v.val.length vc) :: rest).length = ne := ⟨_, rfl⟩
    have hne0 : 0 < ne := by rw [← hne]; simp
    have hnz : ((ne : Int) == 0) = false := beq_eq_false_iff_ne.2 (by omega)
    have hnp : (0 : Int) < (ne : Int) := by omega
    rw [hne] at hcp ⊢
    have hcI : (ne : Int) ≤ (c1 : Int) := by omega
    have hcI1 : (1 : Int) ≤ (c1 : Int) := by omega
    have hnI1 : (1 : Int) ≤ (ne : Int) := by omega
    have HEv1 := zH hev
    rw [hne] at HEv1
    have HT := zH (told_any B Bv g gm gp us (leftS k s (xs.take m)) _ P x v (.slice VA v.val.length vc) k wr HJm.out HXm.out hbt)
    have HEd := zH heds
    unfold evv evc at HT
    clear hev hbt heds HEv hne
    by_cases hveq : v = eventP k x.e (leftS k s (xs.take m)).now
    ·rw [decide_eq_true hveq] at HT
     have HVe := zH hveq
     clear hveq
     have hStr : stripP (xs.map fun x => eventP k x.e s.now) (evs.map Prod.fst) = stripP ((xs.drop (m + 1)).map fun x => eventP k x.e s.now) (rest.map Prod.fst) := by
      rw [HSt.out, HEd.out, HDx.out]
      have := HVe.out
      rw [leftS_now] at this
      rw [List.map_cons, List.map_cons, this]
      exact if_pos rfl
     have HStr := zH hStr
     have hdr : evs.drop (m + 1) = rest := by rw [← List.drop_drop, HEd.out]; rfl
     have HDr := zH hdr
     clear hStr hdr
     by_cases hk3 : k = 3
     ·have hkb : (k != 3) = false := by simp [hk3]
      have HS3 : Hid (leftS k s (xs.take (m + 1)) = leftS k s (xs.take m) ∧ leftI k its (xs.take (m + 1)) = leftI k its (xs.take m)) := zH (by rw [HTx.out, leftS_snoc, leftI_snoc, if_pos hk3, if_pos hk3]; exact ⟨rfl, rfl⟩)
      clear hk3
      go_wp2_with fail
      refine HT.out.mono ?_
      rintro e w2 ⟨rfl, hb2⟩
      have HB2 := zH hb2
      clear hb2
      go_upto_region 6 with fail
      generalize (some ({ block := b1, off := off } : Addr)) = A9 at HEv1 ⊢
      have HTl := zH HEv1.out.drop1
      clear y0 y1 y2 y3 y4 y5
      go_upto_region 7 with fail
      generalize (if c1 = 1 then A9 else Option.map (fun x : Addr => ({ block := x.block, off := x.off + 6 } : Addr)) A9) = A8 at HTl ⊢
      go_wp2_with fail
      go_roundw
      case rel =>
       refine ⟨m + 1, by omega, by go_num, KJ.trans HO.out (KJ.of_below HB2.out), ?_, ?_, ?_⟩
       ·rw [HDr.out]; exact HTl.out.below HB2.out
       ·rw [HS3.out.1, HS3.out.2]; exact HJm.out.below HB2.out
       ·rw [HDr.out]; exact HStr.out
      case measure => simp [intOf]; omega
     ·have hkb : (k != 3) = true := by simp [hk3]
      have HS3 : Hid (leftS k s (xs.take (m + 1)) = goneP (leftS k s (xs.take m)) x.e.birth ∧ leftI k its (xs.take (m + 1)) = dropI (leftI k its (xs.take m)) x.e.key) := zH (by rw [HTx.out, leftS_snoc, leftI_snoc, if_neg hk3, if_neg hk3]; exact ⟨rfl, rfl⟩)
      clear hk3
      go_wp2_with fail
      refine HT.out.mono ?_
      rintro e w2 ⟨rfl, hb2⟩
      have HB2 := zH hb2
      have hlo := leftS_ok k HK.out (xs.take m)
      have hj2 := HJm.out.below hb2
      obtain ⟨q1, q2, q3, q4⟩ := hlo.costs (hj2.perm.mem_iff.1 (List.mem_map_of_mem HXm.out))
      have HTk := zH (take_any B g gm gp us (leftS k s (xs.take m)) (leftI k its (xs.take m)) P x w2 hj2 HXm.out hlo.asc q1 q2 q3 q4)
      clear hb2 hlo hj2 q1 q2 q3 q4
      go_upto_region 6 with fail
      generalize (some ({ block := b1, off := off } : Addr)) = A9 at HEv1 ⊢
      have HTl := zH HEv1.out.drop1
      clear y0 y1 y2 y3 y4 y5
      go_upto_region 7 with fail
      generalize (if c1 = 1 then A9 else Option.map (fun x : Addr => ({ block := x.block, off := x.off + 6 } : Addr)) A9) = A8 at HTl ⊢
      go_wp2_with fail
      refine HTk.out.mono ?_
      rintro e w3 ⟨rfl, hj3, ho3⟩
      have HJ3 := zH hj3
      have HO3 := zH ho3
      clear hj3 ho3
      go_wp2_with fail
      go_roundw
      case rel =>
       refine ⟨m + 1, by omega, by go_num, KJ.trans HO.out (KJ.trans (KJ.of_below HB2.out) HO3.out), ?_, ?_, ?_⟩
       ·rw [HDr.out]; exact (HTl.out.below HB2.out).keep (KJ.keepB HO3.out hBv)
       ·rw [HS3.out.1, HS3.out.2]; exact HJ3.out
       ·rw [HDr.out]; exact HStr.out
      case measure => simp [intOf]; omega
    ·rw [decide_eq_false hveq] at HT
     have HS : Hid (stripP (xs.map fun x => eventP k x.e s.now) (evs.map Prod.fst) = none) := zH (by
      rw [HSt.out, HEd.out, HDx.out]
      rw [leftS_now] at hveq
      rw [List.map_cons, List.map_cons]
      exact if_neg hveq)
     clear hveq
     go_wp2_with fail
     refine HT.out.mono ?_
     rintro e w2 ⟨rfl, hb2⟩
     have HB2 := zH hb2
     clear hb2
     go_wp2_with fail
     go_ret2
     exact ⟨KJ.trans HO.out (KJ.of_below HB2.out), .inl ⟨HS.out, rfl⟩⟩
  ·obtain rfl : m = n := by omega
   have hev := HEv.out
   obtain ⟨A1, c1, rfl⟩ := hev.slice
   have hft : xs.take m = xs := List.take_of_length_le (by have := HL.out; omega)
   have hfd : xs.drop m = [] := List.drop_eq_nil_of_le (by have := HL.out; omega)
   have HS : Hid (stripP (xs.map fun x => eventP k x.e s.now) (evs.map Prod.fst) = some ((evs.drop m).map Prod.fst)) := zH (by rw [HSt.out, hfd]; rfl)
   have HJf : Hid (JRep wr B g gm gp us (leftS k s xs) (leftI k its xs) P) := zH (by have := HJm.out; rw [hft] at this; exact this)
   clear hev hft hfd
   go_wp2_with fail
   go_ret2
   exact ⟨HO.out, .inr ⟨_, evs.drop m, HS.out, rfl, HEv.out, HJf.out⟩⟩
end Go.Proofs.Ytnabbimompapfaa
namespace Go.Proofs.Ytnabbimompapfaa
open Go Go.RowKit Go.MapKept Go.Maps
def altI (its : List It) (b : Nat) (e : EntV) (v : Value) : List It := its.map fun y => if y.b = b then { y with e := e, v := v } else y
theorem altI_b (its : List It) (b : Nat) (e : EntV) (v : Value) : (altI its b e v).map It.b = its.map It.b := by
 unfold altI
 rw [List.map_map]
 exact List.map_congr_left (fun y _ => by dsimp only [Function.comp]; split <;> rfl)
theorem mem_altI {its : List It} {b : Nat} {e : EntV} {v : Value} {z : It} (h : z ∈ altI its b e v) : ∃ y ∈ its, z.b = y.b ∧ z.u = y.u ∧ ((y.b = b ∧ z.e = e ∧ z.v = v) ∨ (y.b ≠ b ∧ z = y)) := by
 obtain ⟨y, hy, rfl⟩ := List.mem_map.1 h
 by_cases e : y.b = b
 ·refine ⟨y, hy, ?_, ?_, .inl ⟨e, ?_, ?_⟩⟩ <;> rw [if_pos e]
 ·refine ⟨y, hy, ?_, ?_, .inr ⟨e, ?_⟩⟩ <;> rw [if_neg e]
def altL (L : List EntV) (b : Int) (e : EntV) : List EntV := L.map fun y => if y.birth = b then e else y
theorem costP_alt {L : List EntV} {x e : EntV} (h : (L.map EntV.birth).Pairwise (· < ·)) (hx : x ∈ L) : costP (altL L x.birth e) = costP L - costE x + costE e := by
 have h1 := gone_perm h hx
 have h2 := costP_perm (h1.map fun y => if y.birth = x.birth then e else y)
 have h3 := costP_gone h hx
 unfold altL
 rw [← h2, List.map_cons, if_pos rfl, costP_cons]
 have : (L.filter fun y => decide (y.birth ≠ x.birth)).map (fun y => if y.birth = x.birth then e else y) = L.filter fun y => decide (y.birth ≠ x.birth) := by
  refine (List.map_congr_left (fun y hy => ?_)).trans (List.map_id _)
  have := of_decide_eq_true (List.mem_filter.1 hy).2
  rw [if_neg this]; rfl
 rw [this, h3]; omega
theorem JRep.reset {w W : World} {B g gm gp : Nat} {us : Int} {s : PJ} {its : List It} {P : List (Int × Int)} (h : JRep w B g gm gp us s its P) (hasc : (s.L.map EntV.birth).Pairwise (· < ·)) {x : It} (hx : x ∈ its) {e' : EntV} {v' : Value} (hke : e'.key = x.e.key) (hbe : e'.birth = x.e.birth)
  (hg : Blk W g 73 (jc s (costP s.L - costE x.e + costE e') us gm gp)) (hi : ItAt W x.b e' v' x.u (costE e')) (hv : Bts W B 5 v' e'.val) (hw : OwnV W B v') (ho : Only (fun k => k = g ∨ k = x.b) w W) :
  JRep W B g gm gp us { s with L := altL s.L x.e.birth e' } (altI its x.b e' v') P ∧ Only (KJ B w) w W := by
 have hoo : Only (KJ B w) w W := ho.mono (fun i _ hi => by rcases hi with e | e <;> subst e; exact h.kj_g; exact h.kj_x hx)
 have hkb : (altI its x.b e' v').map (fun y => (y.e.key, y.b)) = its.map fun y => (y.e.key, y.b) := by
  unfold altI
  rw [List.map_map]
  refine List.map_congr_left (fun y hy => ?_)
  dsimp only [Function.comp]
  split
  ·rename_i e
   rw [h.b_inj hy hx e]
   dsimp only
   rw [hke]
  ·rfl
 have hbirth : ∀ z ∈ altI its x.b e' v', ∃ y ∈ its, y.e.birth = z.e.birth ∧ z.u = y.u := fun z hz => by
  obtain ⟨y, hy, e1, e2, ⟨e3, e4, _⟩ | ⟨_, rfl⟩⟩ := mem_altI hz
  ·exact ⟨y, hy, by rw [e4, hbe, h.b_inj hy hx e3], e2⟩
  ·exact ⟨z, hy, rfl, rfl⟩
 refine ⟨⟨?_, ?_, fun z hz => ?_, fun z hz => ?_, by rw [altI_b]; exact h.nd, ?_, fun z hz => ?_, ?_, h.places.only ho (fun e => ?_), h.pl, ⟨h.base.1, h.base.2.1, h.base.2.2.1, fun z hz => ?_⟩, ⟨h.apart.1, fun z hz => (by
  obtain ⟨y, hy, e1, e2, ⟨e3, e4, e5⟩ | ⟨e3, rfl⟩⟩ := mem_altI hz
  ·rw [e5]; exact hw
  ·exact (h.apart.2 z hy).keep (KJ.keepB hoo (zN _)))⟩⟩, hoo⟩
 ·rw [costP_alt hasc (h.perm.mem_iff.1 (List.mem_map_of_mem hx))]
  exact hg
 ·rw [hkb]
  exact h.items.only ho (fun e => by rcases e with e | e; exact h.g_m e.symm; exact h.ne_m hx e.symm)
 ·obtain ⟨y, hy, e1, e2, ⟨e3, e4, e5⟩ | ⟨e3, rfl⟩⟩ := mem_altI hz
  ·have := h.b_inj hy hx e3
   subst this
   rw [e1, e2, e4, e5]
   exact hi
  ·exact (h.ib z hy).only ho (fun e => by rcases e with e | e; exact h.ne_g hy e; exact e3 e)
 ·obtain ⟨y, hy, e1, e2, ⟨e3, e4, e5⟩ | ⟨e3, rfl⟩⟩ := mem_altI hz
  ·rw [e4, e5]; exact hv
  ·exact (h.vals z hy).keep (KJ.keepB hoo (zN _))
 ·have e : (altI its x.b e' v').map It.e = altL (its.map It.e) x.e.birth e' := by
   unfold altI altL
   rw [List.map_map, List.map_map]
   refine List.map_congr_left (fun y hy => ?_)
   dsimp only [Function.comp]
   by_cases e : y.b = x.b
   ·rw [if_pos e, if_pos (by rw [h.b_inj hy hx e])]
   ·rw [if_neg e, if_neg (fun e2 => e (by rw [h.birth_inj hasc hy hx e2]))]
  rw [e]
  exact h.perm.map _
 ·obtain ⟨y, hy, e1, e2, _⟩ := mem_altI hz
  rw [e2]; exact h.ub y hy
 ·refine h.ord.imp (fun {a b} hh y hy z hz hya hzb => ?_)
  obtain ⟨y', hy', f1, f2⟩ := hbirth y hy
  obtain ⟨z', hz', f3, f4⟩ := hbirth z hz
  rw [f2, f4]
  exact hh y' hy' z' hz' (f1.trans hya) (f3.trans hzb)
 ·rcases e with e | e
  ·exact h.g_p e.symm
  ·exact h.ne_p hx e.symm
 ·obtain ⟨y, hy, e1, _⟩ := mem_altI hz
  rw [e1]; exact h.base.2.2.2 y hy
theorem JRep.added {w W : World} {B g gm gp : Nat} {us : Int} {s : PJ} {its : List It} {P : List (Int × Int)} (h : JRep w B g gm gp us s its P) {xb : Nat} {e' : EntV} {v' : Value} (hus : 0 ≤ us) (hbe : e'.birth = s.births + 1) (hU : ∀ b ∈ s.U, b ≤ s.births)
  (hg : Blk W g 73 (jc { s with births := s.births + 1 } (costP s.L + costE e') us gm gp)) (hm : MRep KI W gm ((its.map fun y => (y.e.key, y.b)) ++ [(e'.key, xb)])) (hi : ItAt W xb e' v' 0 (costE e')) (hv : Bts W B 5 v' e'.val) (hw : OwnV W B v') (hxb : w.heap.size ≤ xb) (ho : Only (fun k => k = g ∨ k = gm) w W) (hB : B ≤ w.heap.size) :
  JRep W B g gm gp us { s with births := s.births + 1, L := s.L ++ [e'] } (its ++ [⟨e', v', xb, 0⟩]) P ∧ Only (KJ B w) w W := by
 have hoo : Only (KJ B w) w W := ho.mono (fun i _ hi => by rcases hi with e | e <;> subst e; exact h.kj_g; exact h.kj_m)
 have hmem : ∀ z ∈ its ++ [(⟨e', v', xb, 0⟩ : It)], z ∈ its ∨ z = ⟨e', v', xb, 0⟩ := fun z hz => by
  rcases List.mem_append.1 hz with h1 | h1
  ·exact .inl h1
  ·exact .inr (List.mem_singleton.1 h1)
 refine ⟨⟨?_, ?_, fun z hz => ?_, fun z hz => ?_, ?_, ?_, fun z hz => ?_, ?_, h.places.only ho (fun e => ?_), h.pl, ⟨h.base.1, h.base.2.1, h.base.2.2.1, fun z hz => ?_⟩, ⟨h.apart.1, fun z hz => (by
  rcases hmem z hz with h1 | rfl
  ·exact (h.apart.2 z h1).keep (KJ.keepB hoo (zN _))
  ·exact hw)⟩⟩, hoo⟩
 ·rw [costP_snoc]
  exact hg
 ·rw [List.map_append]
  exact hm
 ·rcases hmem z hz with h1 | rfl
  ·exact (h.ib z h1).only ho (fun e => by rcases e with e | e; exact h.ne_g h1 e; exact h.ne_m h1 e)
  ·exact hi
 ·rcases hmem z hz with h1 | rfl
  ·exact (h.vals z h1).keep (KJ.keepB hoo (zN _))
  ·exact hv
 ·rw [List.map_append, List.nodup_append]
  refine ⟨h.nd, by simp, fun a ha b hb => ?_⟩
  obtain ⟨y, hy, rfl⟩ := List.mem_map.1 ha
  have : b = xb := by simpa using hb
  have hl := (h.ib y hy).blk.lt
  omega
 ·rw [List.map_append]
  exact h.perm.append_right _
 ·rcases hmem z hz with h1 | rfl
  ·exact h.ub z h1
  ·exact hus
 ·refine List.Pairwise.imp_of_mem ?_ h.ord
  intro a b ha hb hh y hy z hz hya hzb
  have key : ∀ c ∈ s.U, ∀ z ∈ its ++ [(⟨e', v', xb, 0⟩ : It)], z.e.birth = c → z ∈ its := fun c hc z hz hzc => by
   rcases hmem z hz with h1 | rfl
   ·exact h1
   ·have := hU c hc
    dsimp only at hzc
    omega
  exact hh y (key a ha y hy hya) z (key b hb z hz hzb) hya hzb
 ·rcases e with e | e
  ·exact h.g_p e.symm
  ·exact h.apart.1 e.symm
 ·rcases hmem z hz with h1 | rfl
  ·exact h.base.2.2.2 z h1
  ·dsimp only; omega
end Go.Proofs.Ytnabbimompapfaa
namespace Go.Proofs.Ytnabbimompapfaa
open Go Go.RowKit Go.MapKept Go.Maps
theorem JRep.lookI_some {w : World} {B g gm gp : Nat} {us : Int} {s : PJ} {its : List It} {P : List (Int × Int)} (h : JRep w B g gm gp us s its P) {k : ByteArray} (hk : k.size ≤ maxLen) {b : Nat} (hm : mget (its.map fun x => (x.e.key, x.b)) k = some b) :
  (Instr.lookup 70 (.map (some gm)) (.string k) false).run Try.prog w = .ok (.pointer (some ⟨b, 0, none⟩)) w := by
 have := h.items.look1 (P := Try.prog) (k := k) hk
 rw [hm] at this
 exact this
theorem JRep.lookI_none {w : World} {B g gm gp : Nat} {us : Int} {s : PJ} {its : List It} {P : List (Int × Int)} (h : JRep w B g gm gp us s its P) {k : ByteArray} (hk : k.size ≤ maxLen) (hm : mget (its.map fun x => (x.e.key, x.b)) k = none) :
  (Instr.lookup 70 (.map (some gm)) (.string k) false).run Try.prog w = .ok (.pointer none) w := by
 have := h.items.look1 (P := Try.prog) (k := k) hk
 rw [hm] at this
 exact this
def SetRet (B g gm gp : Nat) (us : Int) (s : PJ) (P : List (Int × Int)) (w : World) (e : Ending) (w' : World) : Prop :=
 ∃ its', e = .returned (.tuple #[]) ∧ JRep w' B g gm gp us s its' P ∧ Only (KJ B w) w w'
theorem altL_birth {L : List EntV} {b : Int} {e : EntV} (he : e.birth = b) : (altL L b e).map EntV.birth = L.map EntV.birth := by
 unfold altL
 rw [List.map_map]
 refine List.map_congr_left (fun y _ => ?_)
 dsimp only [Function.comp]
 split
 ·rename_i h; rw [he, h]
 ·rfl
theorem setP_old {s : PJ} {o : OpV} {dl : Int} {x : EntV} (hasc : (s.L.map EntV.birth).Pairwise (· < ·)) (hf : findP s.L o.key = some x) : setP s o dl = useP { s with L := altL s.L x.birth ⟨x.key, o.val, dl, x.birth⟩ } x.birth := by
 unfold setP
 rw [hf]
 dsimp only
 congr 2
 unfold altL
 refine List.map_congr_left (fun y hy => ?_)
 split
 ·rename_i e
  rw [pair_inj hasc y hy x (findP_some hf).1 e]
 ·rfl
set_option maxRecDepth 100000 in
set_option maxHeartbeats 4000000 in
theorem set_old (N B Bv g gm gp : Nat) (us : Int) (s : PJ) (its : List It) (P : List (Int × Int)) (o : OpV) (V : Value) (dl : Int) (x : It) (w : World) (h : JRep w B g gm gp us s its P) (hv : Bts w Bv 5 V o.val) (hi : PInv N s) (hn : N ≤ 90000) (hB : Bv ≤ B ∧ B ≤ w.heap.size)
  (hko : keyOK o.key = true) (hvl : o.val.length ≤ 65536) (hus : 0 ≤ us ∧ us ≤ 1000000000000) (hx : x ∈ its) (hf : findP s.L o.key = some x.e) (hm : mget (its.map fun x => (x.e.key, x.b)) o.key = some x.b) :
  Calls Try.prog 69 #[.pointer (some ⟨g, 0, none⟩), opv o V, .int .u64 dl] w (SetRet B g gm gp (us + 1) (setP s o dl) P w) := by
 have HM := zH hm
 have HF := zH hf
 have HXm := zH hx
 clear hm hf hx
 have HLo := zH (LOk.of hi (by omega))
 have HVl : Hid (o.val.length ≤ 1000000000) := zH (by omega)
 have HK : Hid (o.key.size ≤ maxLen) := zH (by unfold keyOK at hko; have := of_decide_eq_true hko; unfold maxLen; omega)
 obtain ⟨nC, hnC⟩ : ∃ n : Int, (48 : Int) + o.key.size + o.val.length = n := ⟨_, rfl⟩
 have HnC := zH hnC
 have hnC2 : 0 ≤ nC ∧ nC ≤ 100000 := by unfold keyOK at hko; have := of_decide_eq_true hko; omega
 have HCo : Hid (∀ W, Bts W Bv 5 V o.val → Calls Try.prog 61 #[.string o.key, V] W fun e w' => e = .returned (.tuple #[.int .i64 nC, .int .i64 0]) ∧ Below W.heap.size W w') := zH (fun W hW => by
  have := cost_any Bv o.key V o.val W HK.out hW
  rw [hko, hnC] at this
  simp only [Bool.true_eq_false, if_false] at this
  rw [if_neg (by omega)] at this
  exact this)
 have HBvB : Hid (Bv ≤ B) := zH hB.1
 have HBG : Hid (B ≤ g) := zH h.base.1
 obtain ⟨A, c, rfl⟩ := hv.form
 have hbl : Below w.heap.size w (w.alloc (.cells (opc o (.slice A o.val.length c)) 29)) := (zL _ _).alloc (zN _) _
 have HX : Hid (JRX w (w.alloc (.cells (opc o (.slice A o.val.length c)) 29)) B Bv g gm gp us s its P o A c) := zH ⟨h.below hbl, Blk.new _ _ _, hbl, hv.below hbl⟩
 have HI := zH hi
 have HN := zH hn
 have HBB := zH hB
 clear h hv hbl hn hnC hko
 unfold opv
 unfold opc at HX ⊢
 go_enter Try.func69, Try.ntmps69
 go_upto_region 1 with fail
 generalize World.alloc _ _ = W0 at HX ⊢
 refine wp_region_noPanic ?_
 refine wp_region_held_drew (S := fun W => JRX w W B Bv g gm gp us s its P o A c) (by kernel_rfl) (HX.out.adv (zL _ _).drew) (fun hHeld => ?_)
 generalize W0.drew = W1 at hHeld ⊢
 have HX1 := zH hHeld
 refine Pl.go [0, 1, 2, 3, 4, 5, 6, 7] ?_
 iterate 8
  refine tkl (v := ?_) ?_ ?_
  rotate_left 1
  ·intro W hSw
   obtain ⟨z0, z1, z2, z3, z4, z5, z6, z7, z8⟩ := op9 hSw.box; obtain ⟨d0, d1, d2, d3, d4, d5, d6, d7, d8, d9, d10⟩ := hSw.rep.cells; have hlk := hSw.rep.lookI_some HK.out HM.out
   clear hSw
   go_simp
   try with_reducible rfl
  try dsimp only [zS, zB, zC]
 refine Pl.stop ?_
 refine wpAnyH_done (by kernel_rfl) ?_ _
 refine NoPanic.normal ?_
 clear hHeld HX
 have HBg := zH HX1.out.rep.blk
 have HBi := zH (HX1.out.rep.ib x HXm.out)
 have HBo := zH HX1.out.box
 have HVm := zH HX1.out.val
 have HXB : Hid (B ≤ x.b) := zH (HX1.out.rep.base.2.2.2 x HXm.out)
 have HOm : Hid (Only (fun k => k = g ∨ k = x.b) W1 W1) := zH (Only.refl _ _)
 obtain ⟨-, hco, hce, hce0⟩ := HLo.out.costs (HX1.out.rep.perm.mem_iff.1 (List.mem_map_of_mem HXm.out))
 have hw1 : IntKind.i64.wrap (nC - costE x.e) = nC - costE x.e := by rw [IntKind.wrap_i64 _]; omega
 have hw2 : IntKind.i64.wrap (costP s.L + (nC - costE x.e)) = costP s.L + (nC - costE x.e) := by rw [IntKind.wrap_i64 _]; omega
 obtain ⟨z0, z1, z2, z3, z4, z5, z6, z7, z8⟩ := op9 HX1.out.box
 go_wp2_with fail
 refine (HCo.out _ HVm.out).mono ?_
 rintro e w2 ⟨rfl, hb2⟩
 have HBg2 := zH (HBg.out.below hb2)
 have HBi2 : Hid (ItAt w2 (x.b) x.e x.v x.u (costE x.e)) := zH ⟨HBi.out.blk.below hb2⟩
 have HBo2 := zH (HBo.out.below hb2)
 have HVm2 := zH (HVm.out.below hb2)
 have HO2 := zH (HOm.out.trans (Only.of_below (S := fun _ => False) hb2) (fun _ _ h => h.elim))
 clear hb2
 go_upto_region 7 with fail
 refine wp_region_noPanic ?_
 refine wp_region_till [13] (fun W => Blk W g 73 (jc s (costP s.L) us gm gp) ∧ ItAt W (x.b) x.e x.v x.u (costE x.e)) (fun _ => True) (by kernel_rfl) trivial ⟨HBg2.out.drew, ⟨HBi2.out.blk.drew⟩⟩ (fun hTill => ?_)
 refine Pl.go [0, 1, 2, 3, 4, 5, 6, 7, 8, 9, 10] ?_
 iterate 11
  refine ttl (v := ?_) ?_ ?_
  rotate_left 1
  ·intro W hSw
   obtain ⟨-, -, -, d9, -⟩ := jc_at hSw.2.1; have x5 := hSw.2.2.cells.2.2.2.2.2
   clear hSw
   go_simp
   try with_reducible rfl
  try dsimp only [zS, zB, zC]
  clear hTill
  intro hTill
 refine Pl.stop ?_
 refine ts 11 (v := ?_) ?_ ?_
 rotate_left 1
 ·intro W hSw
  skip
  clear hSw
  go_simp
  try with_reducible rfl
 try dsimp only [zS, zB, zC]
 clear hTill
 intro hTill
 refine tt 12 (v := ?_) ?_ ?_
 rotate_left 1
 ·intro W hSw
  obtain ⟨-, -, -, d9, -⟩ := jc_at hSw.2.1; have x5 := hSw.2.2.cells.2.2.2.2.2
  clear hSw
  go_simp
  try with_reducible rfl
 try dsimp only [zS, zB, zC]
 clear hTill
 intro hTill
 clear hTill
 have HBg3 := zH HBg2.out.drew
 have HBi3 : Hid (ItAt w2.drew (x.b) x.e x.v x.u (costE x.e)) := zH ⟨HBi2.out.blk.drew⟩
 have HBo3 := zH HBo2.out.drew
 have HVm3 := zH HVm2.out.drew
 have HO3 := zH HO2.out.drew
 clear HBg2 HBi2 HBo2 HVm2 HO2
 generalize w2.drew = w3 at HBg3 HBi3 HBo3 HVm3 HO3 ⊢
 have d9 : w3.cell? ⟨g, 9, none⟩ = some (.int .i64 (costP s.L)) := (jc_at HBg3.out).2.2.2.1
 have f9 : w3.frozen? ⟨g, 9, none⟩ = false := HBg3.out.frozen 9
 refine wpTill.only (i := 13) (o := ⟨_, _, _, _, _, _⟩) (by kernel_rfl) rfl (fun F hF => ?_)
 go_simp
 refine hF.out _ _ (Till.stored trivial (by kernel_rfl)) (fun hTill => ?_)
 clear hF F hTill
 try simp only [Act.put, zA, zB, zC]
 refine wpTill.done (by kernel_rfl) ?_
 try refine NoPanic.normal ?_
 have ho4 := Only.set1 w3 g 9 (.int .i64 (costP s.L + (nC - (costE x.e))))
 have HBg4 : Hid (Blk (w3.setCell ⟨g, 9, none⟩ (.int .i64 (costP s.L + (nC - (costE x.e))))) g 73 (jc s (costP s.L + (nC - (costE x.e))) us gm gp)) := zH (HBg3.out.set_ 9 _)
 have hneG : ¬ w.heap.size = g := HBo3.out.ne_ HBg3.out (by decide)
 have HBi4 : Hid (ItAt (w3.setCell ⟨g, 9, none⟩ (.int .i64 (costP s.L + (nC - (costE x.e))))) (x.b) x.e x.v x.u (costE x.e)) := zH ⟨HBi3.out.blk.only ho4 (HBi3.out.blk.ne_ HBg3.out (by decide))⟩
 have HBo4 := zH (HBo3.out.only ho4 hneG)
 have HVm4 := zH (HVm3.out.keep (KeepB.of_blk (U := 5) HBg3.out (by decide) (Nat.le_trans HBvB.out HBG.out) ho4))
 have HO4 := zH (HO3.out.trans ho4 (fun i _ e => .inl e))
 clear HBg3 HBi3 HBo3 HVm3 HO3 ho4 hneG d9 f9
 generalize w3.setCell ⟨g, 9, none⟩ (.int .i64 (costP s.L + (nC - (costE x.e)))) = w4 at HBg4 HBi4 HBo4 HVm4 HO4 ⊢
 have z3 : w4.cell? ⟨w.heap.size, 3, none⟩ = some (.slice A o.val.length c) := HBo4.out.cell 3 _ rfl
 go_wp2_with fail
 refine (bytesClone_any Bv _ o.val _ HVm4.out HVl.out).mono ?_
 rintro e w5 ⟨v5, rfl, ho5, hb5⟩
 obtain ⟨A5, c5, rfl, _, _⟩ := own_form ho5
 have HBg5 := zH (HBg4.out.below hb5)
 have HBi5 : Hid (ItAt w5 (x.b) x.e x.v x.u (costE x.e)) := zH ⟨HBi4.out.blk.below hb5⟩
 have HBv5 := zH (Bts.of_own ho5 B)
 have HO5 := zH (HO4.out.trans (Only.of_below (S := fun _ => False) hb5) (fun _ _ h => h.elim))
 have HOv5 : Hid (OwnV w5 B (.slice A5 o.val.length c5)) := zH (OwnV.of_own ho5 (by have := HBB.out.2; have := HX1.out.bel.size; have := HO4.out.size; first | omega | (have := HO16.out.size; omega)))
 clear HBg4 HBi4 HBo4 HVm4 HO4 ho5 hb5 z3
 obtain ⟨x0, x1, x2, x3, x4, x5⟩ := HBi5.out.cells
 have xf1 := HBi5.out.blk.frozen 1
 have xf2 := HBi5.out.blk.frozen 2
 have xf5 := HBi5.out.blk.frozen 5
 go_upto_region 9 with fail
 have ho6 : Only (fun k => k = (x.b)) w5 (((w5.setCell ⟨(x.b), 1, none⟩ (.slice A5 o.val.length c5)).setCell ⟨(x.b), 2, none⟩ (.int .u64 dl)).setCell ⟨(x.b), 5, none⟩ (.int .i64 (nC))) :=
  Only.setCell (S := fun k => k = (x.b)) (Only.setCell (S := fun k => k = (x.b)) (Only.set1 w5 (x.b) 1 _) (p := ⟨(x.b), 2, none⟩) (.inl rfl) _) (p := ⟨(x.b), 5, none⟩) (.inl rfl) _
 have hbi6 : Blk (((w5.setCell ⟨(x.b), 1, none⟩ (.slice A5 o.val.length c5)).setCell ⟨(x.b), 2, none⟩ (.int .u64 dl)).setCell ⟨(x.b), 5, none⟩ (.int .i64 (nC))) (x.b) 60 (itc ⟨(x.e).key, o.val, dl, (x.e).birth⟩ (.slice A5 o.val.length c5) (x.u) (nC)) :=
  ((HBi5.out.blk.set_ 1 (.slice A5 o.val.length c5)).set_ 2 (.int .u64 dl)).set_ 5 (.int .i64 (nC))
 have HBi6 := zH hbi6
 have HBg6 := zH (HBg5.out.only ho6 (HBg5.out.ne_ HBi5.out.blk (by decide)))
 have HBv6 := zH (HBv5.out.keep (KeepB.of_blk (U := 5) HBi5.out.blk (by decide) HXB.out ho6))
 have HOv6 := zH (HOv5.out.keep (KeepB.of_blk (B := B) (U := 5) HBi5.out.blk (by decide) HXB.out ho6))
 have HO6 := zH (HO5.out.trans ho6 (fun i hi e => .inr e))
 clear HBg5 HBi5 HBv5 HOv5 HO5 ho6 hbi6 x0 x1 x2 x3 x4 x5 xf1 xf2 xf5
 generalize World.setCell _ _ _ = w6 at HBi6 HBg6 HBv6 HOv6 HO6 ⊢
 have hce' : costE (⟨x.e.key, o.val, dl, x.e.birth⟩ : EntV) = nC := by
  rw [← HnC.out]
  unfold costE
  rw [(findP_some HF.out).2]
 obtain ⟨hj6, hoo6⟩ := HX1.out.rep.reset HLo.out.asc HXm.out (e' := ⟨x.e.key, o.val, dl, x.e.birth⟩) (W := w6) rfl rfl (by
  rw [hce']
  have := HBg6.out
  rw [show costP s.L + (nC - costE x.e) = costP s.L - costE x.e + nC by omega] at this
  exact this) ⟨by rw [hce']; exact HBi6.out⟩ HBv6.out HOv6.out HO6.out
 have HJ6 := zH hj6
 have HOO6 := zH hoo6
 have HU := zH (use_any B g gm gp us { s with L := altL s.L x.e.birth ⟨x.e.key, o.val, dl, x.e.birth⟩ } _ P ⟨⟨x.e.key, o.val, dl, x.e.birth⟩, .slice A5 o.val.length c5, x.b, x.u⟩ w6 hj6 (List.mem_map.2 ⟨x, HXm.out, by rw [if_pos rfl]⟩) (by
  show ((altL s.L x.e.birth ⟨x.e.key, o.val, dl, x.e.birth⟩).map EntV.birth).Pairwise (· < ·)
  have := altL_birth (L := s.L) (b := x.e.birth) (e := ⟨x.e.key, o.val, dl, x.e.birth⟩) rfl
  rw [this]; exact HLo.out.asc) hus)
 clear hj6 hoo6
 go_wp2_with fail
 refine HU.out.mono ?_
 rintro e w7 ⟨rfl, hj7, ho7⟩
 have HJ7 := zH hj7
 have HO7 := zH ho7
 clear hj7 ho7
 go_wp2_with fail
 go_end0
 exact ⟨_, rfl, by rw [setP_old HLo.out.asc HF.out]; exact HJ7.out, KJ.trans (KJ.trans (KJ.of_below HX1.out.bel) HOO6.out) HO7.out⟩
end Go.Proofs.Ytnabbimompapfaa
namespace Go.Proofs.Ytnabbimompapfaa
open Go Go.RowKit Go.MapKept Go.Maps
theorem setP_new {n : Nat} {s : PJ} {o : OpV} {dl : Int} (hi : PInv n s) (hf : findP s.L o.key = none) : setP s o dl = useP { s with births := s.births + 1, L := s.L ++ [⟨o.key, o.val, dl, s.births + 1⟩] } (s.births + 1) := by
 unfold setP useP
 rw [hf]
 dsimp only
 rw [List.filter_eq_self.2 (fun u hu => by have := hi.lowU u hu; rw [decide_eq_true_eq]; omega)]
structure SnX (w W2 W : World) (g gm gp : Nat) (us : Int) (s : PJ) (o : OpV) (A : Option Addr) (c : Nat) : Prop where
 judge : Blk W g 73 (jc { s with births := s.births + 1 } (costP s.L) us gm gp)
 box : Blk W w.heap.size 29 (opc o (.slice A o.val.length c))
 bel : Below W2.heap.size W2 W
theorem SnX.adv {w W2 W W' : World} {g gm gp : Nat} {us : Int} {s : PJ} {o : OpV} {A : Option Addr} {c : Nat} (h : SnX w W2 W g gm gp us s o A c) (hb : Below W.heap.size W W') : SnX w W2 W' g gm gp us s o A c :=
 ⟨h.judge.below hb, h.box.below hb, h.bel.trans (hb.mono h.bel.size)⟩
set_option maxRecDepth 100000 in
set_option maxHeartbeats 4000000 in
theorem set_new (N B Bv g gm gp : Nat) (us : Int) (s : PJ) (its : List It) (P : List (Int × Int)) (o : OpV) (V : Value) (dl : Int) (w : World) (h : JRep w B g gm gp us s its P) (hv : Bts w Bv 5 V o.val) (hi : PInv N s) (hn : N ≤ 90000) (hB : Bv ≤ B ∧ B ≤ w.heap.size)
  (hko : keyOK o.key = true) (hvl : o.val.length ≤ 65536) (hus : 0 ≤ us ∧ us ≤ 1000000000000) (hdl : 0 ≤ dl ∧ dl ≤ neverT) (hf : findP s.L o.key = none) (hm : mget (its.map fun x => (x.e.key, x.b)) o.key = none) :
  Calls Try.prog 69 #[.pointer (some ⟨g, 0, none⟩), opv o V, .int .u64 dl] w (SetRet B g gm gp (us + 1) (setP s o dl) P w) := by
 have HM := zH hm
 have HF := zH hf
 have HS := zH (setP_new (dl := dl) hi hf)
 have HAs : Hid (((setP s o dl).L.map EntV.birth).Pairwise (· < ·)) := zH (hi.set o dl hko hvl hdl).asc
 clear hm hf hdl
 have HLo := zH (LOk.of hi (by omega))
 have HVl : Hid (o.val.length ≤ 1000000000) := zH (by omega)
 have HK : Hid (o.key.size ≤ maxLen) := zH (by unfold keyOK at hko; have := of_decide_eq_true hko; unfold maxLen; omega)
 obtain ⟨nC, hnC⟩ : ∃ n : Int, (48 : Int) + o.key.size + o.val.length = n := ⟨_, rfl⟩
 have HnC := zH hnC
 have hnC2 : 0 ≤ nC ∧ nC ≤ 100000 := by unfold keyOK at hko; have := of_decide_eq_true hko; omega
 have HCo : Hid (∀ W, Bts W Bv 5 V o.val → Calls Try.prog 61 #[.string o.key, V] W fun e w' => e = .returned (.tuple #[.int .i64 nC, .int .i64 0]) ∧ Below W.heap.size W w') := zH (fun W hW => by
  have := cost_any Bv o.key V o.val W HK.out hW
  rw [hko, hnC] at this
  simp only [Bool.true_eq_false, if_false] at this
  rw [if_neg (by omega)] at this
  exact this)
 have HBvB : Hid (Bv ≤ B) := zH hB.1
 have HBG : Hid (B ≤ g) := zH h.base.1
 obtain ⟨A, c, rfl⟩ := hv.form
 have hbl : Below w.heap.size w (w.alloc (.cells (opc o (.slice A o.val.length c)) 29)) := (zL _ _).alloc (zN _) _
 have HX : Hid (JRX w (w.alloc (.cells (opc o (.slice A o.val.length c)) 29)) B Bv g gm gp us s its P o A c) := zH ⟨h.below hbl, Blk.new _ _ _, hbl, hv.below hbl⟩
 have HI := zH hi
 have HN := zH hn
 have HBB := zH hB
 clear h hv hbl hn hnC hko
 unfold opv
 unfold opc at HX ⊢
 go_enter Try.func69, Try.ntmps69
 go_upto_region 1 with fail
 generalize World.alloc _ _ = W0 at HX ⊢
 refine wp_region_noPanic ?_
 refine wp_region_held_drew (S := fun W => JRX w W B Bv g gm gp us s its P o A c) (by kernel_rfl) (HX.out.adv (zL _ _).drew) (fun hHeld => ?_)
 generalize W0.drew = W1 at hHeld ⊢
 have HX1 := zH hHeld
 refine Pl.go [0, 1, 2, 3, 4, 5, 6, 7] ?_
 iterate 8
  refine tkl (v := ?_) ?_ ?_
  rotate_left 1
  ·intro W hSw
   obtain ⟨z0, z1, z2, z3, z4, z5, z6, z7, z8⟩ := op9 hSw.box; obtain ⟨d0, d1, d2, d3, d4, d5, d6, d7, d8, d9, d10⟩ := hSw.rep.cells; have hlk := hSw.rep.lookI_none HK.out HM.out
   clear hSw
   go_simp
   try with_reducible rfl
  try dsimp only [zS, zB, zC]
 refine Pl.stop ?_
 refine wpAnyH_done (by kernel_rfl) ?_ _
 refine NoPanic.normal ?_
 clear hHeld HX
 obtain ⟨hco0, hco⟩ := costP_bound HLo.out.ok
 have hlen := HLo.out.len
 obtain ⟨d6, -⟩ := jc_at HX1.out.rep.blk
 have f6 := HX1.out.rep.blk.frozen 6
 have hw6 : IntKind.u64.wrap (s.births + 1) = s.births + 1 := by
  have := hi.cnt
  have := HN.out
  rw [IntKind.wrap_u64]
  omega
 have HLw := zH hi.lowU
 clear hi
 go_upto_region 4 with fail
 have ho2 := Only.set1 W1 g 6 (.int .u64 (s.births + 1))
 have hbg2 : Blk (W1.setCell ⟨g, 6, none⟩ (.int .u64 (s.births + 1))) g 73 (jc { s with births := s.births + 1 } (costP s.L) us gm gp) := HX1.out.rep.blk.set_ 6 _
 have hbo2 := HX1.out.box.only ho2 (HX1.out.box.ne_ HX1.out.rep.blk (by decide))
 have hit2 := HX1.out.rep.items.only ho2 (fun e => HX1.out.rep.g_m e.symm)
 have hvm2 := HX1.out.val.keep (KeepB.of_blk (U := 5) HX1.out.rep.blk (by decide) (Nat.le_trans HBvB.out HBG.out) ho2)
 generalize W1.setCell ⟨g, 6, none⟩ (.int .u64 (s.births + 1)) = W2 at ho2 hbg2 hbo2 hit2 hvm2 ⊢
 have HO2 := zH ho2
 have HIt2 := zH hit2
 have HVm2 := zH hvm2
 have HSn2 : Hid (SnX w W2 W2 g gm gp us s o A c) := zH ⟨hbg2, hbo2, zL _ _⟩
 clear ho2 hbg2 hbo2 hit2 hvm2 d6 f6
 refine wp_region_noPanic ?_
 refine wp_region_held_drew (S := fun W => SnX w W2 W g gm gp us s o A c) (by kernel_rfl) (HSn2.out.adv (zL _ _).drew) (fun hHeld => ?_)
 have HSn3 := zH (HSn2.out.adv (zL W2.heap.size W2).drew)
 generalize W2.drew = W3 at HSn3 hHeld ⊢
 refine Pl.go [0, 1, 2, 3, 4, 5, 6, 7] ?_
 iterate 8
  refine tkl (v := ?_) ?_ ?_
  rotate_left 1
  ·intro W hSw
   obtain ⟨d6, -, d8, -⟩ := jc_at hSw.judge; obtain ⟨-, -, z2, -⟩ := op9 hSw.box
   clear hSw
   go_simp
   try with_reducible rfl
  try dsimp only [zS, zB, zC]
 refine Pl.stop ?_
 refine wpAnyH_ready (rs := [8]) (by kernel_rfl) (by simp) ?_
 refine AllReadyH.cons (o := ⟨_, _, _, _, _, _⟩) rfl (fun F hF => ?_) AllReadyH.nil
 go_simp
 have HSn4 := zH (HSn3.out.adv ((zL W3.heap.size W3).alloc (zN _) (.cells #[.string o.key, .slice none 0 0, .int .u64 0, .int .u64 (s.births + 1), .int .i64 0, .int .i64 0] 60)))
 have HBi4 : Hid (Blk (W3.alloc (.cells #[.string o.key, .slice none 0 0, .int .u64 0, .int .u64 (s.births + 1), .int .i64 0, .int .i64 0] 60)) W3.heap.size 60 (itc ⟨o.key, [], 0, s.births + 1⟩ (.slice none 0 0) 0 0)) := zH (Blk.new _ _ _)
 refine hF.out _ _ HSn4.out (fun hHeld => ?_)
 clear hF F
 try simp only [Act.put, zA, zB, zC]
 have hgB : W2.heap.size ≤ W3.heap.size := HSn3.out.bel.size
 generalize W3.heap.size = gB at HBi4 hgB ⊢
 generalize World.alloc _ _ = W4 at HSn4 HBi4 hHeld ⊢
 refine tk 9 (v := ?_) ?_ ?_
 rotate_left 1
 ·intro W hSw
  skip
  clear hSw
  go_simp
  try with_reducible rfl
 try dsimp only [zS, zB, zC]
 refine wpAnyH_done (by kernel_rfl) ?_ _
 refine NoPanic.normal ?_
 clear hHeld HSn3
 go_upto_region 5 with fail
 refine wp_region_noPanic ?_
 refine wp_region_till [7] (fun W => SnX w W2 W g gm gp us s o A c) (fun _ => True) (by kernel_rfl) trivial (HSn4.out.adv (zL _ _).drew) (fun hTill => ?_)
 have HSn5 := zH (HSn4.out.adv (zL W4.heap.size W4).drew)
 have HBi5 := zH HBi4.out.drew
 generalize W4.drew = W5 at HSn5 HBi5 hTill ⊢
 refine Pl.go [0, 1, 2] ?_
 iterate 3
  refine tsl (v := ?_) ?_ ?_
  rotate_left 1
  ·intro W hSw
   skip
   clear hSw
   go_simp
   try with_reducible rfl
  try dsimp only [zS, zB, zC]
  clear hTill
  intro hTill
 refine Pl.stop ?_
 refine tt 3 (v := ?_) ?_ ?_
 rotate_left 1
 ·intro W hSw
  obtain ⟨d6, -, d8, -⟩ := jc_at hSw.2.judge; obtain ⟨-, -, z2, -⟩ := op9 hSw.2.box
  clear hSw
  go_simp
  try with_reducible rfl
 try dsimp only [zS, zB, zC]
 clear hTill
 intro hTill
 refine ts 4 (v := ?_) ?_ ?_
 rotate_left 1
 ·intro W hSw
  skip
  clear hSw
  go_simp
  try with_reducible rfl
 try dsimp only [zS, zB, zC]
 clear hTill
 intro hTill
 refine tt 5 (v := ?_) ?_ ?_
 rotate_left 1
 ·intro W hSw
  obtain ⟨d6, -, d8, -⟩ := jc_at hSw.2.judge; obtain ⟨-, -, z2, -⟩ := op9 hSw.2.box
  clear hSw
  go_simp
  try with_reducible rfl
 try dsimp only [zS, zB, zC]
 clear hTill
 intro hTill
 refine tt 6 (v := ?_) ?_ ?_
 rotate_left 1
 ·intro W hSw
  obtain ⟨d6, -, d8, -⟩ := jc_at hSw.2.judge; obtain ⟨-, -, z2, -⟩ := op9 hSw.2.box
  clear hSw
  go_simp
  try with_reducible rfl
 try dsimp only [zS, zB, zC]
 clear hTill
 intro hTill
 obtain ⟨W6, hput, hm6, ht6⟩ := (HIt2.out.below HSn5.out.bel).put (k := o.key) HK.out HM.out gB
 have HIt6 := zH hm6
 have HTu := zH ht6.only
 clear hm6 ht6 hTill
 refine wpTill.only (i := 7) (o := ⟨_, _, _, _, _, _⟩) (by kernel_rfl) rfl (fun F hF => ?_)
 go_simp
 refine hF.out _ _ (Till.stored trivial (by kernel_rfl)) (fun hTill => ?_)
 clear hF F hTill hput
 try simp only [Act.put, zA, zB, zC]
 refine wpTill.done (by kernel_rfl) ?_
 try refine NoPanic.normal ?_
 obtain ⟨c0, hc0⟩ : ∃ c0 : Int, (0 : Int) = c0 := ⟨_, rfl⟩
 have hgm5 := HIt2.out.below HSn5.out.bel
 have HBg := zH (HSn5.out.judge.only HTu.out (HSn5.out.judge.ne_map hgm5))
 have HBi : Hid (ItAt W6 gB ⟨o.key, [], 0, s.births + 1⟩ (.slice none 0 0) 0 c0) := zH ⟨by rw [← hc0]; exact HBi5.out.only HTu.out (HBi5.out.ne_map hgm5)⟩
 have HBo := zH (HSn5.out.box.only HTu.out (HSn5.out.box.ne_map hgm5))
 have HVm := zH ((HVm2.out.below HSn5.out.bel).keep (KeepB.of_only (B := Bv) (U := 5) HTu.out (fun k _ e => ⟨by have := HX1.out.rep.base.2.1; have := HBvB.out; omega, fun cs fr hh => by
  subst e
  obtain ⟨es, clock, hb, _⟩ := hgm5
  rw [hb] at hh
  cases hh⟩)))
 have HXB : Hid (B ≤ gB) := zH (by have := HBB.out.2; have := HX1.out.bel.size; have := HO2.out.size; omega)
 have HOm : Hid (Only (fun k => k = g ∨ k = gB) W6 W6) := zH (Only.refl _ _)
 have HO16 : Hid (Only (fun k => k = g ∨ k = gm) W1 W6) := zH (((HO2.out.mono (fun i _ e => .inl e)).trans (Only.of_below (S := fun _ => False) HSn5.out.bel) (fun _ _ h => h.elim)).trans HTu.out (fun i _ e => .inr e))
 have HGB : Hid (W1.heap.size ≤ gB) := zH (by have := HO2.out.size; omega)
 have HCz := zH hc0
 have hw1 : IntKind.i64.wrap (nC - c0) = nC - c0 := by rw [IntKind.wrap_i64 _]; omega
 have hw2 : IntKind.i64.wrap (costP s.L + (nC - c0)) = costP s.L + (nC - c0) := by rw [IntKind.wrap_i64 _]; omega
 clear hc0 hgm5 HBi4 HSn4 HSn5 HBi5 HVm2 HSn2
 obtain ⟨z0, z1, z2, z3, z4, z5, z6, z7, z8⟩ := op9 HBo.out
 go_wp2_with fail
 refine (HCo.out _ HVm.out).mono ?_
 rintro e w2 ⟨rfl, hb2⟩
 have HBg2 := zH (HBg.out.below hb2)
 have HBi2 : Hid (ItAt w2 (gB) (⟨o.key, [], 0, s.births + 1⟩ : EntV) (.slice none 0 0) 0 c0) := zH ⟨HBi.out.blk.below hb2⟩
 have HBo2 := zH (HBo.out.below hb2)
 have HVm2 := zH (HVm.out.below hb2)
 have HO2 := zH (HOm.out.trans (Only.of_below (S := fun _ => False) hb2) (fun _ _ h => h.elim))
 clear hb2
 go_upto_region 7 with fail
 refine wp_region_noPanic ?_
 refine wp_region_till [13] (fun W => Blk W g 73 (jc { s with births := s.births + 1 } (costP s.L) us gm gp) ∧ ItAt W (gB) (⟨o.key, [], 0, s.births + 1⟩ : EntV) (.slice none 0 0) 0 c0) (fun _ => True) (by kernel_rfl) trivial ⟨HBg2.out.drew, ⟨HBi2.out.blk.drew⟩⟩ (fun hTill => ?_)
 refine Pl.go [0, 1, 2, 3, 4, 5, 6, 7, 8, 9, 10] ?_
 iterate 11
  refine ttl (v := ?_) ?_ ?_
  rotate_left 1
  ·intro W hSw
   obtain ⟨-, -, -, d9, -⟩ := jc_at hSw.2.1; have x5 := hSw.2.2.cells.2.2.2.2.2
   clear hSw
   go_simp
   try with_reducible rfl
  try dsimp only [zS, zB, zC]
  clear hTill
  intro hTill
 refine Pl.stop ?_
 refine ts 11 (v := ?_) ?_ ?_
 rotate_left 1
 ·intro W hSw
  skip
  clear hSw
  go_simp
  try with_reducible rfl
 try dsimp only [zS, zB, zC]
 clear hTill
 intro hTill
 refine tt 12 (v := ?_) ?_ ?_
 rotate_left 1
 ·intro W hSw
  obtain ⟨-, -, -, d9, -⟩ := jc_at hSw.2.1; have x5 := hSw.2.2.cells.2.2.2.2.2
  clear hSw
  go_simp
  try with_reducible rfl
 try dsimp only [zS, zB, zC]
 clear hTill
 intro hTill
 clear hTill
 have HBg3 := zH HBg2.out.drew
 have HBi3 : Hid (ItAt w2.drew (gB) (⟨o.key, [], 0, s.births + 1⟩ : EntV) (.slice none 0 0) 0 c0) := zH ⟨HBi2.out.blk.drew⟩
 have HBo3 := zH HBo2.out.drew
 have HVm3 := zH HVm2.out.drew
 have HO3 := zH HO2.out.drew
 clear HBg2 HBi2 HBo2 HVm2 HO2
 generalize w2.drew = w3 at HBg3 HBi3 HBo3 HVm3 HO3 ⊢
 have d9 : w3.cell? ⟨g, 9, none⟩ = some (.int .i64 (costP s.L)) := (jc_at HBg3.out).2.2.2.1
 have f9 : w3.frozen? ⟨g, 9, none⟩ = false := HBg3.out.frozen 9
 refine wpTill.only (i := 13) (o := ⟨_, _, _, _, _, _⟩) (by kernel_rfl) rfl (fun F hF => ?_)
 go_simp
 refine hF.out _ _ (Till.stored trivial (by kernel_rfl)) (fun hTill => ?_)
 clear hF F hTill
 try simp only [Act.put, zA, zB, zC]
 refine wpTill.done (by kernel_rfl) ?_
 try refine NoPanic.normal ?_
 have ho4 := Only.set1 w3 g 9 (.int .i64 (costP s.L + (nC - c0)))
 have HBg4 : Hid (Blk (w3.setCell ⟨g, 9, none⟩ (.int .i64 (costP s.L + (nC - c0)))) g 73 (jc { s with births := s.births + 1 } (costP s.L + (nC - c0)) us gm gp)) := zH (HBg3.out.set_ 9 _)
 have hneG : ¬ w.heap.size = g := HBo3.out.ne_ HBg3.out (by decide)
 have HBi4 : Hid (ItAt (w3.setCell ⟨g, 9, none⟩ (.int .i64 (costP s.L + (nC - c0)))) (gB) (⟨o.key, [], 0, s.births + 1⟩ : EntV) (.slice none 0 0) 0 c0) := zH ⟨HBi3.out.blk.only ho4 (HBi3.out.blk.ne_ HBg3.out (by decide))⟩
 have HBo4 := zH (HBo3.out.only ho4 hneG)
 have HVm4 := zH (HVm3.out.keep (KeepB.of_blk (U := 5) HBg3.out (by decide) (Nat.le_trans HBvB.out HBG.out) ho4))
 have HO4 := zH (HO3.out.trans ho4 (fun i _ e => .inl e))
 clear HBg3 HBi3 HBo3 HVm3 HO3 ho4 hneG d9 f9
 generalize w3.setCell ⟨g, 9, none⟩ (.int .i64 (costP s.L + (nC - c0))) = w4 at HBg4 HBi4 HBo4 HVm4 HO4 ⊢
 have z3 : w4.cell? ⟨w.heap.size, 3, none⟩ = some (.slice A o.val.length c) := HBo4.out.cell 3 _ rfl
 go_wp2_with fail
 refine (bytesClone_any Bv _ o.val _ HVm4.out HVl.out).mono ?_
 rintro e w5 ⟨v5, rfl, ho5, hb5⟩
 obtain ⟨A5, c5, rfl, _, _⟩ := own_form ho5
 have HBg5 := zH (HBg4.out.below hb5)
 have HBi5 : Hid (ItAt w5 (gB) (⟨o.key, [], 0, s.births + 1⟩ : EntV) (.slice none 0 0) 0 c0) := zH ⟨HBi4.out.blk.below hb5⟩
 have HBv5 := zH (Bts.of_own ho5 B)
 have HO5 := zH (HO4.out.trans (Only.of_below (S := fun _ => False) hb5) (fun _ _ h => h.elim))
 have HOv5 : Hid (OwnV w5 B (.slice A5 o.val.length c5)) := zH (OwnV.of_own ho5 (by have := HBB.out.2; have := HX1.out.bel.size; have := HO4.out.size; first | omega | (have := HO16.out.size; omega)))
 clear HBg4 HBi4 HBo4 HVm4 HO4 ho5 hb5 z3
 obtain ⟨x0, x1, x2, x3, x4, x5⟩ := HBi5.out.cells
 have xf1 := HBi5.out.blk.frozen 1
 have xf2 := HBi5.out.blk.frozen 2
 have xf5 := HBi5.out.blk.frozen 5
 go_upto_region 9 with fail
 have ho6 : Only (fun k => k = (gB)) w5 (((w5.setCell ⟨(gB), 1, none⟩ (.slice A5 o.val.length c5)).setCell ⟨(gB), 2, none⟩ (.int .u64 dl)).setCell ⟨(gB), 5, none⟩ (.int .i64 (nC))) :=
  Only.setCell (S := fun k => k = (gB)) (Only.setCell (S := fun k => k = (gB)) (Only.set1 w5 (gB) 1 _) (p := ⟨(gB), 2, none⟩) (.inl rfl) _) (p := ⟨(gB), 5, none⟩) (.inl rfl) _
 have hbi6 : Blk (((w5.setCell ⟨(gB), 1, none⟩ (.slice A5 o.val.length c5)).setCell ⟨(gB), 2, none⟩ (.int .u64 dl)).setCell ⟨(gB), 5, none⟩ (.int .i64 (nC))) (gB) 60 (itc ⟨((⟨o.key, [], 0, s.births + 1⟩ : EntV)).key, o.val, dl, ((⟨o.key, [], 0, s.births + 1⟩ : EntV)).birth⟩ (.slice A5 o.val.length c5) (0) (nC)) :=
  ((HBi5.out.blk.set_ 1 (.slice A5 o.val.length c5)).set_ 2 (.int .u64 dl)).set_ 5 (.int .i64 (nC))
 have HBi6 := zH hbi6
 have HBg6 := zH (HBg5.out.only ho6 (HBg5.out.ne_ HBi5.out.blk (by decide)))
 have HBv6 := zH (HBv5.out.keep (KeepB.of_blk (U := 5) HBi5.out.blk (by decide) HXB.out ho6))
 have HOv6 := zH (HOv5.out.keep (KeepB.of_blk (B := B) (U := 5) HBi5.out.blk (by decide) HXB.out ho6))
 have HO6 := zH (HO5.out.trans ho6 (fun i hi e => .inr e))
 clear HBg5 HBi5 HBv5 HOv5 HO5 ho6 hbi6 x0 x1 x2 x3 x4 x5 xf1 xf2 xf5
 generalize World.setCell _ _ _ = w6 at HBi6 HBg6 HBv6 HOv6 HO6 ⊢
 have hce' : costE (⟨o.key, o.val, dl, s.births + 1⟩ : EntV) = nC := by
  rw [← HnC.out]
  rfl
 obtain ⟨hj6, hoo6⟩ := HX1.out.rep.added (e' := ⟨o.key, o.val, dl, s.births + 1⟩) (W := w6) (xb := gB) hus.1 rfl HLw.out (by
  rw [hce']
  have := HBg6.out
  rw [← HCz.out, Int.sub_zero] at this
  exact this) (HIt6.out.only HO6.out (fun e => by
   rcases e with e | e
   ·exact HX1.out.rep.g_m e.symm
   ·have := HX1.out.rep.items.lt; have := HGB.out; omega)) ⟨by rw [hce']; exact HBi6.out⟩ HBv6.out HOv6.out HGB.out (HO16.out.trans HO6.out (fun i hi e => by
   rcases e with e | e
   ·exact .inl e
   ·have := HGB.out; omega)) (by have := HBB.out.2; have := HX1.out.bel.size; omega)
 have HJ6 := zH hj6
 have HOO6 := zH hoo6
 have HU := zH (use_any B g gm gp us { s with births := s.births + 1, L := s.L ++ [⟨o.key, o.val, dl, s.births + 1⟩] } _ P ⟨⟨o.key, o.val, dl, s.births + 1⟩, .slice A5 o.val.length c5, gB, 0⟩ w6 hj6 (List.mem_append.2 (.inr (List.mem_singleton.2 rfl))) (by
  have := HAs.out
  rw [HS.out] at this
  exact this) hus)
 clear hj6 hoo6
 go_wp2_with fail
 refine HU.out.mono ?_
 rintro e w7 ⟨rfl, hj7, ho7⟩
 have HJ7 := zH hj7
 have HO7 := zH ho7
 clear hj7 ho7
 go_wp2_with fail
 go_end0
 exact ⟨_, rfl, by rw [HS.out]; exact HJ7.out, KJ.trans (KJ.trans (KJ.of_below HX1.out.bel) HOO6.out) HO7.out⟩
theorem set_any (N B Bv g gm gp : Nat) (us : Int) (s : PJ) (its : List It) (P : List (Int × Int)) (o : OpV) (V : Value) (dl : Int) (w : World) (h : JRep w B g gm gp us s its P) (hv : Bts w Bv 5 V o.val) (hi : PInv N s) (hn : N ≤ 90000) (hB : Bv ≤ B ∧ B ≤ w.heap.size)
  (hko : keyOK o.key = true) (hvl : o.val.length ≤ 65536) (hus : 0 ≤ us ∧ us ≤ 1000000000000) (hdl : 0 ≤ dl ∧ dl ≤ neverT) :
  Calls Try.prog 69 #[.pointer (some ⟨g, 0, none⟩), opv o V, .int .u64 dl] w (SetRet B g gm gp (us + 1) (setP s o dl) P w) := by
 rcases h.find hi.keys o.key with ⟨h1, h2⟩ | ⟨x, hx, h1, _, h2⟩
 ·exact set_new N B Bv g gm gp us s its P o V dl w h hv hi hn hB hko hvl hus hdl h1 h2
 ·exact set_old N B Bv g gm gp us s its P o V dl x w h hv hi hn hB hko hvl hus hx h1 h2
end Go.Proofs.Ytnabbimompapfaa

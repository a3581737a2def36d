/- AudKL, ArgsC, ArgsE, AudLA, AudSC, AudKM, AudLB, AudLC, AudSD, AudLD -/
import Derived.Test.YtnabbimompapfaaGreatMl13
import Derived.Test.YtnabbimompapfaaGreatMl1
import Derived.Test.YtnabbimompapfaaGreatRows
import Derived.Lib.SmallJoins
import Derived.OpenShut
import Derived.ProofKit
import Derived.ChangeSlices
import Derived.Test.YtnabbimompapfaaGreatMl8
import Derived.Deep.Slices
namespace Go.Proofs.YtnabbimompapfaaGreat
open Go Go.RowKit Go.MapKept Go.Maps
structure RqOk (q : RQ) : Prop where
 cur : -9223372036854775808 ≤ q.r.op.cursor ∧ q.r.op.cursor ≤ 9223372036854775807
 keys : ∀ p ∈ q.xs, p.1.key.size ≤ maxLen
def zres : Array Value := #[.int .i64 0, .int .u64 0, .string ⟨#[]⟩, .slice none 0 0, .int .u64 0, .int .i64 0, .int .i64 0, .int .i64 0, .int .u64 0, .int .u64 0, .int .i64 0, .bool false, .slice none 0 0, .string ⟨#[]⟩, .slice none 0 0, .int .u64 0, .int .u64 0, .int .i64 0, .slice none 0 0, .int .i64 0, .int .i64 0]
theorem zres_eq : zres = #[.int .i64 0, .int .u64 0, .string ⟨#[]⟩, .slice none 0 0, .int .u64 0, .int .i64 0, .int .i64 0, .int .i64 0, .int .u64 0, .int .u64 0, .int .i64 0, .bool false, .slice none 0 0, .string ⟨#[]⟩, .slice none 0 0, .int .u64 0, .int .u64 0, .int .i64 0, .slice none 0 0, .int .i64 0, .int .i64 0] := rfl
theorem resc_one (r : ResV) (A1 A2 A3 A4 : Option Addr) (n1 n2 n3 n4 c1 c2 c3 c4 : Nat) : (resc r (.slice A1 n1 c1) (.slice A2 n2 c2) (.slice A3 n3 c3) (.slice A4 n4 c4)).all (·.oneCell') = true := by simp [resc, Value.oneCell']
theorem JRep.weak {w : World} {B B' g gm gp : Nat} {us : Int} {s : PJ} {its : List It} {P : List (Int × Int)} (h : JRep w B g gm gp us s its P) (hB : B' ≤ B) (hv : ∀ x ∈ its, Bts w B' 5 x.v x.e.val) : JRep w B' g gm gp us s its P :=
 ⟨h.blk, h.items, h.ib, hv, h.nd, h.perm, h.ub, h.ord, h.places, h.pl, ⟨Nat.le_trans hB h.base.1, Nat.le_trans hB h.base.2.1, Nat.le_trans hB h.base.2.2.1, fun x hx => Nat.le_trans hB (h.base.2.2.2 x hx)⟩, ⟨h.apart.1, fun x hx => (h.apart.2 x hx).weak hB⟩⟩
theorem fresh_row {w : World} {cs cs' : Array Value} {t : TypeId} : Below w.heap.size w ((w.alloc (.cells cs t)).setRow w.heap.size cs') ∧ Blk ((w.alloc (.cells cs t)).setRow w.heap.size cs') w.heap.size t cs' := by
 refine ⟨?_, (Blk.new w t cs).row cs'⟩
 have h := Only.setRow (S := fun k => k = w.heap.size) (Only.refl _ (w.alloc (.cells cs t))) (g := w.heap.size) (.inl rfl) cs'
 exact ((zL _ _).alloc (zN _) _).trans (h.below (fun i hi hlt e => by omega) (by rw [World.size_alloc]; omega))
def RunRet (c : CfgV) (l : List ResV) (w : World) (e : Ending) (w' : World) : Prop :=
 ∃ J, e = .returned (.tuple #[J, .int .i64 (checkP c l).1, .int .i64 (checkP c l).2.1, .int .i64 (checkP c l).2.2]) ∧ Below w.heap.size w w' ∧
  ((checkP c l).2.2 = 0 → (checkP c l).2.1 = 0 → ∃ g gm gp us its P, J = .pointer (some ⟨g, 0, none⟩) ∧ PInv l.length (jall l (start c) 0).2 ∧ JRep w' w.heap.size g gm gp us (jall l (start c) 0).2 its P)
set_option maxRecDepth 100000 in
set_option maxHeartbeats 8000000 in
theorem run_any (Bv : Nat) (c : CfgV) (lv : Value) (qs : List RQ) (w : World) (h : RsAt w Bv lv qs) (hq : ∀ q ∈ qs, RqOk q) (hBv : Bv ≤ w.heap.size) (hn : qs.length ≤ 60000) :
  Calls Tryz.prog 14 #[cfgv c, lv] w (RunRet c (qs.map RQ.r) w) := by
 obtain ⟨A, cap, rfl, hc, hm⟩ := h.cap
 have HR := zH h
 have HQk := zH hq
 have HBv := zH hBv
 unfold maxLen at hm
 have hxI : (qs.length : Int) ≤ 60000 := by omega
 have hxc : (qs.length : Int) ≤ (cap : Int) := by omega
 have HN := zH hn
 have HBg := zH (fun W => begin_any c W)
 unfold cfgv cfgc at HBg ⊢
 obtain ⟨ce, hce⟩ : ∃ ce, cfgP c = ce := ⟨_, rfl⟩
 have HCe := zH hce
 have HCk := zH (fun W => hce ▸ cfgCheck_any c W)
 unfold cfgv cfgc at HCk
 clear h hq hBv hn hm hc hce
 go_enter Tryz.func14, Tryz.ntmps14
 have HC0 : Hid (Blk (w.alloc (.cells #[.int .i64 c.count, .int .i64 c.bytes, .int .i64 c.prot, .int .u64 c.seed, .bool c.same] 24)) w.heap.size 24 #[.int .i64 c.count, .int .i64 c.bytes, .int .i64 c.prot, .int .u64 c.seed, .bool c.same]) := zH (Blk.new w _ _)
 have x0 : World.cell? (w.alloc (.cells #[.int .i64 c.count, .int .i64 c.bytes, .int .i64 c.prot, .int .u64 c.seed, .bool c.same] 24)) ⟨w.heap.size, 0, none⟩ = some (.int .i64 c.count) := HC0.out.cell 0 _ rfl
 have x1 : World.cell? (w.alloc (.cells #[.int .i64 c.count, .int .i64 c.bytes, .int .i64 c.prot, .int .u64 c.seed, .bool c.same] 24)) ⟨w.heap.size, 1, none⟩ = some (.int .i64 c.bytes) := HC0.out.cell 1 _ rfl
 have x2 : World.cell? (w.alloc (.cells #[.int .i64 c.count, .int .i64 c.bytes, .int .i64 c.prot, .int .u64 c.seed, .bool c.same] 24)) ⟨w.heap.size, 2, none⟩ = some (.int .i64 c.prot) := HC0.out.cell 2 _ rfl
 have x3 : World.cell? (w.alloc (.cells #[.int .i64 c.count, .int .i64 c.bytes, .int .i64 c.prot, .int .u64 c.seed, .bool c.same] 24)) ⟨w.heap.size, 3, none⟩ = some (.int .u64 c.seed) := HC0.out.cell 3 _ rfl
 have x4 : World.cell? (w.alloc (.cells #[.int .i64 c.count, .int .i64 c.bytes, .int .i64 c.prot, .int .u64 c.seed, .bool c.same] 24)) ⟨w.heap.size, 4, none⟩ = some (.bool c.same) := HC0.out.cell 4 _ rfl
 go_wp2_with fail
 refine (HCk.out _).mono ?_
 rintro e w1 ⟨rfl, hb1⟩
 have HB1 : Hid (Below w.heap.size w w1) := zH (below_own hb1)
 have HC1 : Hid (Blk w1 w.heap.size 24 #[.int .i64 c.count, .int .i64 c.bytes, .int .i64 c.prot, .int .u64 c.seed, .bool c.same]) := zH (HC0.out.below hb1)
 clear hb1 x0 x1 x2 x3 x4 HC0
 by_cases he0 : ce = 0
 ·subst he0
  by_cases hl : (4096 : Int) < (qs.length : Int)
  ·have HS : Hid (checkP c (qs.map RQ.r) = (0, 0, 7)) := zH (by
    unfold checkP
    rw [if_neg (fun h => h HCe.out), if_pos (by rw [List.length_map]; omega)])
   go_wp2_with fail
   refine bodyPost_ret (v := .tuple #[.pointer none, .int .i64 (0), .int .i64 (0), .int .i64 (7)]) (by simp [results, Tryz.results14, go_sem]) rfl ⟨_, by rw [HS.out], HB1.out, fun h => (by rw [HS.out] at h; cases h)⟩
  ·have x0 : World.cell? w1 ⟨w.heap.size, 0, none⟩ = some (.int .i64 c.count) := HC1.out.cell 0 _ rfl
   have x1 : World.cell? w1 ⟨w.heap.size, 1, none⟩ = some (.int .i64 c.bytes) := HC1.out.cell 1 _ rfl
   have x2 : World.cell? w1 ⟨w.heap.size, 2, none⟩ = some (.int .i64 c.prot) := HC1.out.cell 2 _ rfl
   have x3 : World.cell? w1 ⟨w.heap.size, 3, none⟩ = some (.int .u64 c.seed) := HC1.out.cell 3 _ rfl
   have x4 : World.cell? w1 ⟨w.heap.size, 4, none⟩ = some (.bool c.same) := HC1.out.cell 4 _ rfl
   go_wp2_with fail
   refine (HBg.out _).mono ?_
   rintro e w2 ⟨g, gm, gp, rfl, hj2, hb2⟩
   have HB2 : Hid (Below w.heap.size w w2) := zH (HB1.out.trans (hb2.mono HB1.out.size))
   have HK2 : Hid (JRep w2 w.heap.size g gm gp 0 (start c) [] []) := zH (hj2.weak HB1.out.size (fun x hx => (by cases hx)))
   clear hj2 hb2 x0 x1 x2 x3 x4
   have HCp : Hid (checkP c (qs.map RQ.r) = ((jall (qs.map RQ.r) (start c) 0).1.1, (jall (qs.map RQ.r) (start c) 0).1.2, 0)) := zH (by
    unfold checkP
    rw [if_neg (fun h => h HCe.out), if_neg (by rw [List.length_map]; omega)])
   go_wp2_with fail
   go_loopw [4, 24] (fun J i wr => ∃ (k : Nat) (us : Int) (s : PJ) (its : List It) (P : List (Int × Int)), k ≤ qs.length ∧ i = .int .i64 k ∧ J = .pointer (some ⟨g, 0, none⟩) ∧ jall ((qs.drop k).map RQ.r) s k = jall (qs.map RQ.r) (start c) 0 ∧ PInv k s ∧ (0 ≤ us ∧ us ≤ k) ∧ JRep wr w.heap.size g gm gp us s its P ∧ Below w.heap.size w wr) (fun _ i _ => qs.length - (intOf i).toNat)
   case atStart => exact ⟨0, 0, _, _, _, by omega, rfl, rfl, rfl, start_inv c, ⟨Int.le_refl _, Int.le_refl _⟩, HK2.out, HB2.out⟩
   case round =>
    obtain ⟨k, us, s, its, P, hk, rfl, rfl, hj, hi, hus, hkr, hbl⟩ := hrel
    have HJ := zH hj
    have HI := zH hi
    have HK := zH hkr
    have HBl := zH hbl
    have HU := zH hus
    clear hj hi hkr hbl hus
    by_cases hkl : k < qs.length
    ·obtain ⟨⟨r, v1, v2, v3, v4, xs⟩, hq⟩ : ∃ q, qs[k]? = some q := ⟨_, List.getElem?_eq_getElem hkl⟩
     have HRw := zH (HR.out.keep (KeepB.of_below HBl.out))
     obtain ⟨b, off, hA, -⟩ := HRw.out.at_ hq
     subst hA
     have HDr : Hid ((qs.drop k).map RQ.r = r :: (qs.drop (k + 1)).map RQ.r) := zH (by
      obtain ⟨h1, h2⟩ := List.getElem?_eq_some_iff.1 hq
      rw [List.drop_eq_getElem_cons h1, h2]; rfl)
     have hkI : (k : Int) < (qs.length : Int) := by omega
     have hk0 : (0 : Int) ≤ (k : Int) := by omega
     have HCl : Hid (∀ j u, (resc r v1 v2 v3 v4).toList[j]? = some u → wr.cell? ((⟨b, off + k * 21, none⟩ : Addr).add j) = some u) := zH (fun j u hu => by
      rw [add_plain]
      exact HRw.out.cell hq j u (by rw [← Array.getElem?_toList]; exact hu))
     have hrv := HRw.out.vals _ (List.mem_of_getElem? hq)
     have hrk := HQk.out _ (List.mem_of_getElem? hq)
     dsimp only at hrv
     obtain ⟨A1, c1, rfl⟩ := hrv.1.a1.form
     obtain ⟨A2, c2, rfl⟩ := hrv.1.a2.form
     obtain ⟨A3, c3, rfl⟩ := hrv.1.a3.form
     obtain ⟨A4, c4, rfl⟩ := hrv.1.a4.slice
     have HRv := zH hrv
     have HRk := zH hrk
     clear hq hrv hrk
     have HZ : Hid (Blk (wr.alloc (.cells zres 46)) wr.heap.size 46 zres) := zH (Blk.new wr _ zres)
     go_upto_region 10 with (first | (refine wpList_load_at rfl 46 _ rfl ⟨b, off + k * 21, none⟩ rfl (resc r (.slice A1 r.op.val.length c1) (.slice A2 r.val.length c2) (.slice A3 r.ent.val.length c3) (.slice A4 xs.length c4)) _ HCl.out Tryz.underlying46 rfl (by kernel_rfl) ?_) | (refine wpList_store_row rfl 46 _ _ rfl wr.heap.size (resc r (.slice A1 r.op.val.length c1) (.slice A2 r.val.length c2) (.slice A3 r.ent.val.length c3) (.slice A4 xs.length c4)) rfl rfl 46 _ HZ.out (by kernel_rfl) rfl (resc_one _ _ _ _ _ _ _ _ _ _ _ _ _) ?_))
     rw [← zres_eq]
     obtain ⟨hb9, hk9⟩ := fresh_row (w := wr) (cs := zres) (cs' := resc r (.slice A1 r.op.val.length c1) (.slice A2 r.val.length c2) (.slice A3 r.ent.val.length c3) (.slice A4 xs.length c4)) (t := 46)
     generalize World.setRow _ _ _ = w9 at hb9 hk9 ⊢
     have HK9 := zH (HK.out.below hb9)
     have HB9 := zH (HBl.out.trans (hb9.mono HBl.out.size))
     have HR9 := zH (HRv.out.1.keep (KeepB.of_below hb9))
     have HRb := zH hk9
     generalize wr.heap.size = gr at HRb ⊢
     clear hb9 hk9 HCl
     go_wp2_with (refine wpList_load_row rfl 46 _ rfl gr rfl 46 _ (0, 0) _ HRb.out Tryz.underlying46 rfl (by kernel_rfl) ?_)
     refine (add_any k w.heap.size Bv g gm gp us s its P r _ _ _ _ xs w9 HK9.out HI.out (by have := HN.out; omega) ⟨HBv.out, HB9.out.size⟩ HR9.out HRv.out.2 HRk.out.cur HRk.out.keys (by have := HU.out; omega)).mono ?_
     rintro e w3 ⟨ho3, herr, hok⟩
     obtain ⟨res, hres⟩ : ∃ res, jstep s r = res := ⟨_, rfl⟩
     have HRes := zH hres
     rw [hres] at herr hok
     clear hres
     have HB3 := zH (HB9.out.trans (KJ.below ho3 HB9.out.size))
     clear ho3
     cases res with
     |error y =>
      have he := herr y rfl
      subst he
      have hy := jstep_err HRes.out
      have hyb : (y != 0) = true := by rw [bne_iff_ne]; exact hy
      have HY := zH hy
      have HS : Hid (checkP c (qs.map RQ.r) = ((k : Int), y, 0)) := zH (by
       rw [HCp.out, ← HJ.out, HDr.out, jall_cons, HRes.out])
      clear herr hok hy
      go_wp2_with fail
      refine bodyPost_ret (v := .tuple #[.pointer (some ⟨g, 0, none⟩), .int .i64 ((k : Int)), .int .i64 (y), .int .i64 (0)]) (by simp [results, Tryz.results14, go_sem]) rfl ⟨_, by rw [HS.out], HB3.out, fun _ h2 => absurd (by rw [HS.out] at h2; exact h2) HY.out⟩
     |ok s2 =>
      obtain ⟨he, us4, its4, P4, hu4, hj4⟩ := hok s2 rfl
      subst he
      have HU4 := zH hu4
      have HK4 := zH hj4
      have HJ4 : Hid (jall ((qs.drop (k + 1)).map RQ.r) s2 (k + 1) = jall (qs.map RQ.r) (start c) 0) := zH (by
       rw [← HJ.out, HDr.out, jall_cons, HRes.out])
      have HI4 := zH (jstep_inv HI.out HRv.out.2.ticks HRv.out.2.ttl HRes.out)
      clear herr hok hu4 hj4
      go_wp2_with fail
      go_roundw
      case rel => exact ⟨k + 1, us4, _, _, _, by omega, by go_num, rfl, HJ4.out, HI4.out, by have := HU.out; have := HU4.out; omega, HK4.out, HB3.out⟩
      case measure => simp [intOf]; omega
    ·obtain rfl : k = qs.length := by omega
     have HJe : Hid (((-1, 0), s) = jall (qs.map RQ.r) (start c) 0) := zH (by
      have := HJ.out
      rw [List.drop_length] at this
      exact this)
     have HS : Hid (checkP c (qs.map RQ.r) = (-1, 0, 0)) := zH (by rw [HCp.out, ← HJe.out])
     go_wp2_with fail
     refine bodyPost_ret (v := .tuple #[.pointer (some ⟨g, 0, none⟩), .int .i64 ((-1)), .int .i64 (0), .int .i64 (0)]) (by simp [results, Tryz.results14, go_sem]) rfl ⟨_, by rw [HS.out], HBl.out, fun _ _ => ⟨g, gm, gp, us, its, P, rfl, by rw [← HJe.out, List.length_map]; exact HI.out, by rw [← HJe.out]; exact HK.out⟩⟩
 ·have heb : (ce != 0) = true := by simp [he0]
  have HS : Hid (checkP c (qs.map RQ.r) = (0, 0, ce)) := zH (by
   unfold checkP
   rw [if_pos (by rw [HCe.out]; exact he0), HCe.out])
  go_wp2_with fail
  refine bodyPost_ret (v := .tuple #[.pointer none, .int .i64 (0), .int .i64 (0), .int .i64 (ce)]) (by simp [results, Tryz.results14, go_sem]) rfl ⟨_, by rw [HS.out], HB1.out, fun h => absurd (by rw [HS.out] at h; exact h) he0⟩
def ChkRetJ (x : Int × Int × Int) (w : World) (e : Ending) (w' : World) : Prop := e = .returned (.tuple #[.int .i64 x.1, .int .i64 x.2.1, .int .i64 x.2.2]) ∧ Below w.heap.size w w'
set_option maxRecDepth 100000 in
set_option maxHeartbeats 8000000 in
theorem auditCheck_any (Bv : Nat) (c : CfgV) (lv : Value) (qs : List RQ) (w : World) (h : RsAt w Bv lv qs) (hq : ∀ q ∈ qs, RqOk q) (hBv : Bv ≤ w.heap.size) (hn : qs.length ≤ 60000) :
  Calls Tryz.prog 7 #[cfgv c, lv] w (ChkRetJ (checkP c (qs.map RQ.r)) w) := by
 obtain ⟨A, cap, rfl, hc, hm⟩ := h.cap
 have HC0 : Hid (Blk (w.alloc (.cells #[.int .i64 c.count, .int .i64 c.bytes, .int .i64 c.prot, .int .u64 c.seed, .bool c.same] 24)) w.heap.size 24 #[.int .i64 c.count, .int .i64 c.bytes, .int .i64 c.prot, .int .u64 c.seed, .bool c.same]) := zH (Blk.new w _ _)
 have hbl : Below w.heap.size w (w.alloc (.cells #[.int .i64 c.count, .int .i64 c.bytes, .int .i64 c.prot, .int .u64 c.seed, .bool c.same] 24)) := (zL _ _).alloc (zN _) _
 have HRn := zH (run_any Bv c _ qs _ (h.below hbl) hq (Nat.le_trans hBv hbl.size) hn)
 unfold cfgv cfgc at HRn ⊢
 obtain ⟨X, hX⟩ : ∃ X, checkP c (qs.map RQ.r) = X := ⟨_, rfl⟩
 have HX := zH hX
 obtain ⟨X1, X2, X3⟩ := X
 rw [hX]
 clear h hq hBv hn hbl hX hc hm
 go_enter Tryz.func7, Tryz.ntmps7
 have x0 : World.cell? (w.alloc (.cells #[.int .i64 c.count, .int .i64 c.bytes, .int .i64 c.prot, .int .u64 c.seed, .bool c.same] 24)) ⟨w.heap.size, 0, none⟩ = some (.int .i64 c.count) := HC0.out.cell 0 _ rfl
 have x1 : World.cell? (w.alloc (.cells #[.int .i64 c.count, .int .i64 c.bytes, .int .i64 c.prot, .int .u64 c.seed, .bool c.same] 24)) ⟨w.heap.size, 1, none⟩ = some (.int .i64 c.bytes) := HC0.out.cell 1 _ rfl
 have x2 : World.cell? (w.alloc (.cells #[.int .i64 c.count, .int .i64 c.bytes, .int .i64 c.prot, .int .u64 c.seed, .bool c.same] 24)) ⟨w.heap.size, 2, none⟩ = some (.int .i64 c.prot) := HC0.out.cell 2 _ rfl
 have x3 : World.cell? (w.alloc (.cells #[.int .i64 c.count, .int .i64 c.bytes, .int .i64 c.prot, .int .u64 c.seed, .bool c.same] 24)) ⟨w.heap.size, 3, none⟩ = some (.int .u64 c.seed) := HC0.out.cell 3 _ rfl
 have x4 : World.cell? (w.alloc (.cells #[.int .i64 c.count, .int .i64 c.bytes, .int .i64 c.prot, .int .u64 c.seed, .bool c.same] 24)) ⟨w.heap.size, 4, none⟩ = some (.bool c.same) := HC0.out.cell 4 _ rfl
 go_wp2_with fail
 refine HRn.out.mono ?_
 rintro e w2 ⟨J, he, hb2, -⟩
 rw [HX.out] at he
 subst he
 have HB2 : Hid (Below w.heap.size w w2) := zH (below_own hb2)
 clear hb2 x0 x1 x2 x3 x4
 go_wp2_with fail
 refine bodyPost_ret (v := .tuple #[.int .i64 X1, .int .i64 X2, .int .i64 X3]) (by simp [results, Tryz.results7, go_sem]) rfl ⟨rfl, HB2.out⟩
end Go.Proofs.YtnabbimompapfaaGreat
namespace Go.Proofs.YtnabbimompapfaaGreat
open Go Go.RowKit Go.Joins Go.ChangeShapes Go.WideShapes
theorem u8_wf {z : Int} (h : (Lit.int .u8 z).wf = true) : 0 ≤ z ∧ z ≤ 255 := by
 have h1 : IntKind.u8.min = 0 := rfl
 have h2 : IntKind.u8.max = 255 := rfl
 simp [Lit.wf, h1, h2] at h
 omega
theorem open_bts {H : Type} {enc : TypeId × Value → H} {P : Program} {w : World} {fuel : Nat} {t e : TypeId} {v : Value} {y : DataW H × List MemPlace} (ht : P.underlying t = some (.slice e)) (he : P.underlying e = some (.int .u8)) (hc : P.cellsOf e = 1)
  (h : DataW.trod enc P w 0 (fun _ => true) true fuel t [v] = some y) (U : Nat) : ∃ bs : List UInt8, Bts w w.heap.size U v bs := by
 rcases open_ints ht he hc h with ⟨hcs, _⟩ | ⟨a, len, cap, zs, hcs, _, hl, hm, hz, _, hcell, hwf⟩
 ·injection hcs with hcs _
  subst hcs
  exact ⟨[], Bts.nil _ _ _⟩
 ·injection hcs with hcs _
  subst hcs
  simp only [if_true] at hz
  refine ⟨(zs.take len).map (fun z => UInt8.ofNat z.toNat), some a, cap, ?_, ?_, hm, (fun h => by cases h), fun h0 => ?_⟩
  ·simp; omega
  ·simp; omega
  ·simp at h0
   have hc0 := hcell 0 (by omega)
   have ha0 : a.add 0 = a := by simp [Addr.add]
   rw [ha0] at hc0
   obtain ⟨b, off, spot⟩ := a
   have hs : spot = none := by
    cases spot with
    |none => rfl
    |some s =>
     unfold World.cell? at hc0
     split at hc0
     ·simp at hc0
     ·cases hc0
   subst hs
   have hb := block_lt_of_cell hc0
   refine ⟨b, off, rfl, hb, .inl hb, fun i hi => ?_⟩
   simp at hi
   have hci := hcell i (by omega)
   rw [add_plain] at hci
   rw [hci]
   have hiz : i < zs.length := by omega
   have e1 : zs.getD i 0 = zs[i] := by rw [List.getD_eq_getElem?_getD, List.getElem?_eq_getElem hiz]; rfl
   have hwz := u8_wf (hwf (zs.getD i 0) (by rw [e1]; exact List.getElem_mem _))
   rw [e1] at hwz ⊢
   have e2 : (UInt8.ofNat (zs[i]).toNat).toNat = (zs[i]).toNat := by
    rw [UInt8.toNat_ofNat']
    omega
   simp only [List.getElem_map, List.getElem_take]
   rw [e2, Int.toNat_of_nonneg hwz.1]
end Go.Proofs.YtnabbimompapfaaGreat
namespace Go.Proofs.YtnabbimompapfaaGreat
open Go Go.RowKit Go.Joins Go.ChangeShapes Go.WideShapes Go.ChangeAt Go.WideMaps Go.WideElems Go.Deep
theorem fldE {H : Type} {enc : TypeId × Value → H} {P : Program} {w : World} {n k : Nat} {cs cs' : List Value} {xs : List (DataW H × List MemPlace)} {i : Nat} {t : TypeId} {off : Nat} (h : DataW.trod enc P w 0 (fun _ => true) true n t ((cs.drop off).take (P.cellsOf t)) = xs[i]?) (hi : i < xs.length) (hc : P.cellsOf t = k) (hcs : (cs.drop off).take k = cs') : ∃ y, DataW.trod enc P w 0 (fun _ => true) true n t cs' = some y := by
 rw [hc, hcs] at h
 exact ⟨_, h.trans (List.getElem?_eq_getElem hi)⟩
theorem u64E {z : Int} (h : (Lit.int .u64 z).wf = true) : 0 ≤ z := by
 have h1 : IntKind.u64.min = 0 := rfl
 simp [Lit.wf, h1] at h
 omega
theorem i64E {z : Int} (h : (Lit.int .i64 z).wf = true) : -9223372036854775808 ≤ z ∧ z ≤ 9223372036854775807 := by
 have h1 : IntKind.i64.min = -9223372036854775808 := rfl
 have h2 : IntKind.i64.max = 9223372036854775807 := rfl
 simp [Lit.wf, h1, h2] at h
 omega
theorem list_chooseE {α : Type} {p : Nat → α → Prop} : ∀ n, (∀ i, i < n → ∃ a, p i a) → ∃ l : List α, l.length = n ∧ ∀ i (h : i < l.length), p i l[i]
 |0, _ => ⟨[], rfl, fun i h => by simp at h⟩
 |n + 1, h => by
  obtain ⟨l, hl, hp⟩ := list_chooseE n (fun i hi => h i (by omega))
  obtain ⟨a, ha⟩ := h n (by omega)
  refine ⟨l ++ [a], by simp [hl], fun i hi => ?_⟩
  rcases Nat.lt_or_ge i l.length with h1 | h1
  ·rw [List.getElem_append_left h1]; exact hp i h1
  ·have : i = l.length := by simp at hi; omega
   subst this
   rw [List.getElem_append_right (zN _)]
   simpa [hl] using ha
theorem open_rows {α H : Type} {enc : TypeId × Value → H} {P : Program} {w : World} {fuel : Nat} {t e : TypeId} {v : Value} {y : DataW H × List MemPlace} (C : α → List Value) (K : Nat) (Q : α → Prop) (hC : ∀ x, (C x).length = K) (hK : 0 < K)
  (ht : P.underlying t = some (.slice e)) (hc : P.cellsOf e = K) (hel : ∀ n cs y, cs.length = K → DataW.trod enc P w 0 (fun _ => true) true n e cs = some y → ∃ x, cs = C x ∧ Q x) (h : DataW.trod enc P w 0 (fun _ => true) true fuel t [v] = some y) :
  ∃ ls : List α, (∃ A cap, v = .slice A ls.length cap ∧ ls.length ≤ cap ∧ cap ≤ maxLen ∧ (A = none → ls.length = 0) ∧
   (0 < ls.length → ∃ b off, A = some ⟨b, off, none⟩ ∧ (b < w.heap.size ∧ b < w.heap.size) ∧ ∀ i x, ls[i]? = some x → ∀ j u, (C x)[j]? = some u → w.cell? ⟨b, off + (i * K + j), none⟩ = some u)) ∧ ∀ x ∈ ls, Q x := by
 rcases open_slice ht h with ⟨hcs, _⟩ | ⟨a, len, cap, m, n, D, Pl, hcs, _, hl, hm, hmm, _, hi⟩
 ·injection hcs with hcs _
  subst hcs
  exact ⟨[], ⟨none, 0, rfl, zN _, Nat.zero_le _, fun _ => rfl, fun h => by simp at h⟩, by simp⟩
 ·injection hcs with hcs _
  subst hcs
  simp only [if_true] at hmm
  rw [hc] at hi
  obtain ⟨ls, hlen, has⟩ := list_chooseE (p := fun i (x : α) => (∀ j, j < K → w.cell? ((a.add (i * K)).add j) = (C x)[j]?) ∧ Q x) len (fun i hil => by
   obtain ⟨cs', hc', ht'⟩ := hi i (by omega)
   obtain ⟨_, hcl, hat⟩ := World.cells?_some hc'
   obtain ⟨x, rfl, hx⟩ := hel _ _ _ hcl ht'
   exact ⟨x, hat, hx⟩)
  refine ⟨ls, ⟨some a, cap, by rw [hlen], by omega, hm, (fun h => by cases h), fun h0 => ?_⟩, fun x hx => ?_⟩
  ·have h1 := (has 0 h0).1 0 hK
   rw [Nat.zero_mul] at h1
   have ha0 : a.add 0 = a := by simp [Addr.add]
   rw [ha0, ha0, List.getElem?_eq_getElem (by rw [hC]; exact hK)] at h1
   obtain ⟨b, off, spot⟩ := a
   have hs : spot = none := by
    cases spot with
    |none => rfl
    |some s =>
     unfold World.cell? at h1
     split at h1
     ·simp at h1
     ·cases h1
   subst hs
   have hb := block_lt_of_cell h1
   refine ⟨b, off, rfl, ⟨hb, hb⟩, fun i x hix j u hj => ?_⟩
   obtain ⟨hil, rfl⟩ := List.getElem?_eq_some_iff.1 hix
   have hj9 : j < K := by
    have := (List.getElem?_eq_some_iff.1 hj).1
    rwa [hC] at this
   have := (has i hil).1 j hj9
   rw [add_plain, add_plain, hj] at this
   rw [← Nat.add_assoc]; exact this
  ·obtain ⟨i, hi, rfl⟩ := List.getElem_of_mem hx
   exact (has i hi).2
set_option maxRecDepth 100000 in
theorem cfg_cells {H : Type} {enc : TypeId × Value → H} {w : World} {n : Nat} {cs : List Value} {y : DataW H × List MemPlace} (hl : cs.length = 5) (h : DataW.trod enc Tryz.prog w 0 (fun _ => true) true n 24 cs = some y) :
  ∃ c : CfgV, cs = (cfgc c).toList := by
 match cs, hl with
 |[c0, c1, c2, c3, c4], _ =>
  obtain ⟨xs, n, _, _, hl, hlen, hf⟩ := DataW.trod_struct Tryz.underlying24 h
  obtain ⟨y0, g0⟩ := fldE (cs' := [c0]) (hf 0 _ rfl) (by rw [hlen]; decide) (k := 1) (by kernel_rfl) rfl
  obtain ⟨y1, g1⟩ := fldE (cs' := [c1]) (hf 1 _ rfl) (by rw [hlen]; decide) (k := 1) (by kernel_rfl) rfl
  obtain ⟨y2, g2⟩ := fldE (cs' := [c2]) (hf 2 _ rfl) (by rw [hlen]; decide) (k := 1) (by kernel_rfl) rfl
  obtain ⟨y3, g3⟩ := fldE (cs' := [c3]) (hf 3 _ rfl) (by rw [hlen]; decide) (k := 1) (by kernel_rfl) rfl
  obtain ⟨y4, g4⟩ := fldE (cs' := [c4]) (hf 4 _ rfl) (by rw [hlen]; decide) (k := 1) (by kernel_rfl) rfl
  obtain ⟨k0, e0, _, h0⟩ := DataW.trod_int Tryz.underlying3 g0
  obtain ⟨k1, e1, _, h1⟩ := DataW.trod_int Tryz.underlying3 g1
  obtain ⟨k2, e2, _, h2⟩ := DataW.trod_int Tryz.underlying3 g2
  obtain ⟨k3, e3, _, h3⟩ := DataW.trod_int Tryz.underlying22 g3
  obtain ⟨k4, e4, _⟩ := DataW.trod_bool Tryz.underlying4 g4
  injection e0 with e0 _
  injection e1 with e1 _
  injection e2 with e2 _
  injection e3 with e3 _
  injection e4 with e4 _
  subst e0 e1 e2 e3 e4
  exact ⟨⟨k0, k1, k2, k3, k4⟩, rfl⟩
set_option maxRecDepth 100000 in
theorem op_cellsE {H : Type} {enc : TypeId × Value → H} {w : World} {n : Nat} {cs : List Value} {y : DataW H × List MemPlace} (hl : cs.length = 9) (h : DataW.trod enc Tryz.prog w 0 (fun _ => true) true n 43 cs = some y) :
  ∃ (o : OpV) (u : Value), cs = (opc o u).toList ∧ o.key.size ≤ maxLen ∧ Bts w w.heap.size 5 u o.val ∧ 0 ≤ o.ticks ∧ 0 ≤ o.ttl ∧ (-9223372036854775808 ≤ o.cursor ∧ o.cursor ≤ 9223372036854775807) := by
 match cs, hl with
 |[c0, c1, c2, c3, c4, c5, c6, c7, c8], _ =>
  obtain ⟨xs, n, _, _, hl, hlen, hf⟩ := DataW.trod_struct Tryz.underlying43 h
  obtain ⟨y0, g0⟩ := fldE (cs' := [c0]) (hf 0 _ rfl) (by rw [hlen]; decide) (k := 1) (by kernel_rfl) rfl
  obtain ⟨y1, g1⟩ := fldE (cs' := [c1]) (hf 1 _ rfl) (by rw [hlen]; decide) (k := 1) (by kernel_rfl) rfl
  obtain ⟨y2, g2⟩ := fldE (cs' := [c2]) (hf 2 _ rfl) (by rw [hlen]; decide) (k := 1) (by kernel_rfl) rfl
  obtain ⟨y3, g3⟩ := fldE (cs' := [c3]) (hf 3 _ rfl) (by rw [hlen]; decide) (k := 1) (by kernel_rfl) rfl
  obtain ⟨y4, g4⟩ := fldE (cs' := [c4]) (hf 4 _ rfl) (by rw [hlen]; decide) (k := 1) (by kernel_rfl) rfl
  obtain ⟨y5, g5⟩ := fldE (cs' := [c5]) (hf 5 _ rfl) (by rw [hlen]; decide) (k := 1) (by kernel_rfl) rfl
  obtain ⟨y6, g6⟩ := fldE (cs' := [c6]) (hf 6 _ rfl) (by rw [hlen]; decide) (k := 1) (by kernel_rfl) rfl
  obtain ⟨y7, g7⟩ := fldE (cs' := [c7]) (hf 7 _ rfl) (by rw [hlen]; decide) (k := 1) (by kernel_rfl) rfl
  obtain ⟨y8, g8⟩ := fldE (cs' := [c8]) (hf 8 _ rfl) (by rw [hlen]; decide) (k := 1) (by kernel_rfl) rfl
  obtain ⟨k0, e0, _, h0⟩ := DataW.trod_int Tryz.underlying41 g0
  obtain ⟨k1, e1, _, h1⟩ := DataW.trod_int Tryz.underlying38 g1
  obtain ⟨k2, e2, _, h2⟩ := DataW.trod_string Tryz.underlying9 g2
  obtain ⟨k3, h3⟩ := open_bts Tryz.underlying37 Tryz.underlying5 (by kernel_rfl) g3 5
  obtain ⟨k4, e4, _, h4⟩ := DataW.trod_int Tryz.underlying38 g4
  obtain ⟨k5, e5, _, h5⟩ := DataW.trod_int Tryz.underlying3 g5
  obtain ⟨k6, e6, _, h6⟩ := DataW.trod_int Tryz.underlying3 g6
  obtain ⟨k7, e7, _, h7⟩ := DataW.trod_int Tryz.underlying3 g7
  obtain ⟨k8, e8, _, h8⟩ := DataW.trod_int Tryz.underlying22 g8
  injection e0 with e0 _
  injection e1 with e1 _
  injection e2 with e2 _
  injection e4 with e4 _
  injection e5 with e5 _
  injection e6 with e6 _
  injection e7 with e7 _
  injection e8 with e8 _
  subst e0 e1 e2 e4 e5 e6 e7 e8
  exact ⟨⟨k0, k1, k2, k3, k4, k5, k6, k7, k8⟩, c3, rfl, h2, h3, u64E h1, u64E h4, i64E h7⟩
set_option maxRecDepth 100000 in
theorem ent_cellsE {H : Type} {enc : TypeId × Value → H} {w : World} {n : Nat} {cs : List Value} {y : DataW H × List MemPlace} (hl : cs.length = 4) (h : DataW.trod enc Tryz.prog w 0 (fun _ => true) true n 40 cs = some y) :
  ∃ (x : EntV) (u : Value), cs = (entc x u).toList ∧ x.key.size ≤ maxLen ∧ Bts w w.heap.size 5 u x.val := by
 match cs, hl with
 |[c0, c1, c2, c3], _ =>
  obtain ⟨xs, n, _, _, hl, hlen, hf⟩ := DataW.trod_struct Tryz.underlying40 h
  obtain ⟨y0, g0⟩ := fldE (cs' := [c0]) (hf 0 _ rfl) (by rw [hlen]; decide) (k := 1) (by kernel_rfl) rfl
  obtain ⟨y1, g1⟩ := fldE (cs' := [c1]) (hf 1 _ rfl) (by rw [hlen]; decide) (k := 1) (by kernel_rfl) rfl
  obtain ⟨y2, g2⟩ := fldE (cs' := [c2]) (hf 2 _ rfl) (by rw [hlen]; decide) (k := 1) (by kernel_rfl) rfl
  obtain ⟨y3, g3⟩ := fldE (cs' := [c3]) (hf 3 _ rfl) (by rw [hlen]; decide) (k := 1) (by kernel_rfl) rfl
  obtain ⟨k0, e0, _, h0⟩ := DataW.trod_string Tryz.underlying9 g0
  obtain ⟨k1, h1⟩ := open_bts Tryz.underlying37 Tryz.underlying5 (by kernel_rfl) g1 5
  obtain ⟨k2, e2, _, h2⟩ := DataW.trod_int Tryz.underlying38 g2
  obtain ⟨k3, e3, _, h3⟩ := DataW.trod_int Tryz.underlying22 g3
  injection e0 with e0 _
  injection e2 with e2 _
  injection e3 with e3 _
  subst e0 e2 e3
  exact ⟨⟨k0, k1, k2, k3⟩, c1, rfl, h0, h1⟩
set_option maxRecDepth 100000 in
theorem ev_cellsE {H : Type} {enc : TypeId × Value → H} {w : World} {n : Nat} {cs : List Value} {y : DataW H × List MemPlace} (hl : cs.length = 6) (h : DataW.trod enc Tryz.prog w 0 (fun _ => true) true n 49 cs = some y) :
  ∃ (x : EvV × Value), cs = (evc x.1 x.2).toList ∧ x.1.key.size ≤ maxLen ∧ Bts w w.heap.size 5 x.2 x.1.val := by
 match cs, hl with
 |[c0, c1, c2, c3, c4, c5], _ =>
  obtain ⟨xs, n, _, _, hl, hlen, hf⟩ := DataW.trod_struct Tryz.underlying49 h
  obtain ⟨y0, g0⟩ := fldE (cs' := [c0]) (hf 0 _ rfl) (by rw [hlen]; decide) (k := 1) (by kernel_rfl) rfl
  obtain ⟨y1, g1⟩ := fldE (cs' := [c1]) (hf 1 _ rfl) (by rw [hlen]; decide) (k := 1) (by kernel_rfl) rfl
  obtain ⟨y2, g2⟩ := fldE (cs' := [c2]) (hf 2 _ rfl) (by rw [hlen]; decide) (k := 1) (by kernel_rfl) rfl
  obtain ⟨y3, g3⟩ := fldE (cs' := [c3]) (hf 3 _ rfl) (by rw [hlen]; decide) (k := 1) (by kernel_rfl) rfl
  obtain ⟨y4, g4⟩ := fldE (cs' := [c4]) (hf 4 _ rfl) (by rw [hlen]; decide) (k := 1) (by kernel_rfl) rfl
  obtain ⟨y5, g5⟩ := fldE (cs' := [c5]) (hf 5 _ rfl) (by rw [hlen]; decide) (k := 1) (by kernel_rfl) rfl
  obtain ⟨k0, e0, _, h0⟩ := DataW.trod_int Tryz.underlying47 g0
  obtain ⟨k1, e1, _, h1⟩ := DataW.trod_string Tryz.underlying9 g1
  obtain ⟨k2, h2⟩ := open_bts Tryz.underlying37 Tryz.underlying5 (by kernel_rfl) g2 5
  obtain ⟨k3, e3, _, h3⟩ := DataW.trod_int Tryz.underlying22 g3
  obtain ⟨k4, e4, _, h4⟩ := DataW.trod_int Tryz.underlying38 g4
  obtain ⟨k5, e5, _, h5⟩ := DataW.trod_int Tryz.underlying38 g5
  injection e0 with e0 _
  injection e1 with e1 _
  injection e3 with e3 _
  injection e4 with e4 _
  injection e5 with e5 _
  subst e0 e1 e3 e4 e5
  exact ⟨(⟨k0, k1, k2, k3, k4, k5⟩, c2), rfl, h1, h2⟩
theorem open_evsE {H : Type} {enc : TypeId × Value → H} {w : World} {n : Nat} {v : Value} {y : DataW H × List MemPlace} (h : DataW.trod enc Tryz.prog w 0 (fun _ => true) true n 44 [v] = some y) :
  ∃ xs : List (EvV × Value), EvsAt w w.heap.size v xs ∧ ∀ p ∈ xs, p.1.key.size ≤ maxLen := by
 obtain ⟨xs, ⟨A, cap, e, h1, h2, h3, h4⟩, hq⟩ := open_rows (α := EvV × Value) (fun x => (evc x.1 x.2).toList) 6 (fun x => x.1.key.size ≤ maxLen ∧ Bts w w.heap.size 5 x.2 x.1.val) (fun x => rfl) (by decide) Tryz.underlying44 (by kernel_rfl) (fun n cs y hl ht => ev_cellsE hl ht) h
 refine ⟨xs, ⟨⟨A, cap, e, h1, h2, h3, fun h0 => ?_⟩, fun p hp => (hq p hp).2⟩, fun p hp => (hq p hp).1⟩
 obtain ⟨b, off, ha, hb, hc⟩ := h4 h0
 exact ⟨b, off, ha, hb, fun i p hi j u hu => hc i p hi j u (by rw [Array.getElem?_toList]; exact hu)⟩
def RstIn (w : World) (q : RQ) : Prop := ResAt w w.heap.size q.r q.v1 q.v2 q.v3 q.v4 q.xs ∧ RqOk q ∧ (0 ≤ q.r.op.ticks ∧ 0 ≤ q.r.op.ttl) ∧ q.r.op.key.size ≤ maxLen ∧ q.r.ent.key.size ≤ maxLen
set_option maxRecDepth 100000 in
theorem rst_cellsE {H : Type} {enc : TypeId × Value → H} {w : World} {n : Nat} {cs : List Value} {y : DataW H × List MemPlace} (hl : cs.length = 21) (h : DataW.trod enc Tryz.prog w 0 (fun _ => true) true n 46 cs = some y) :
  ∃ q : RQ, cs = q.c.toList ∧ RstIn w q := by
 match cs, hl with
 |[c0, c1, c2, c3, c4, c5, c6, c7, c8, c9, c10, c11, c12, c13, c14, c15, c16, c17, c18, c19, c20], _ =>
  obtain ⟨xs, n, _, _, hl, hlen, hf⟩ := DataW.trod_struct Tryz.underlying46 h
  obtain ⟨y0, g0⟩ := fldE (cs' := [c0, c1, c2, c3, c4, c5, c6, c7, c8]) (hf 0 _ rfl) (by rw [hlen]; decide) (k := 9) (by kernel_rfl) rfl
  obtain ⟨y1, g1⟩ := fldE (cs' := [c9]) (hf 1 _ rfl) (by rw [hlen]; decide) (k := 1) (by kernel_rfl) rfl
  obtain ⟨y2, g2⟩ := fldE (cs' := [c10]) (hf 2 _ rfl) (by rw [hlen]; decide) (k := 1) (by kernel_rfl) rfl
  obtain ⟨y3, g3⟩ := fldE (cs' := [c11]) (hf 3 _ rfl) (by rw [hlen]; decide) (k := 1) (by kernel_rfl) rfl
  obtain ⟨y4, g4⟩ := fldE (cs' := [c12]) (hf 4 _ rfl) (by rw [hlen]; decide) (k := 1) (by kernel_rfl) rfl
  obtain ⟨y5, g5⟩ := fldE (cs' := [c13, c14, c15, c16]) (hf 5 _ rfl) (by rw [hlen]; decide) (k := 4) (by kernel_rfl) rfl
  obtain ⟨y6, g6⟩ := fldE (cs' := [c17]) (hf 6 _ rfl) (by rw [hlen]; decide) (k := 1) (by kernel_rfl) rfl
  obtain ⟨y7, g7⟩ := fldE (cs' := [c18]) (hf 7 _ rfl) (by rw [hlen]; decide) (k := 1) (by kernel_rfl) rfl
  obtain ⟨y8, g8⟩ := fldE (cs' := [c19]) (hf 8 _ rfl) (by rw [hlen]; decide) (k := 1) (by kernel_rfl) rfl
  obtain ⟨y9, g9⟩ := fldE (cs' := [c20]) (hf 9 _ rfl) (by rw [hlen]; decide) (k := 1) (by kernel_rfl) rfl
  obtain ⟨o, u, e0, ho, hu, ht, htt, hcu⟩ := op_cellsE rfl g0
  obtain ⟨k1, e1, _, h1⟩ := DataW.trod_int Tryz.underlying38 g1
  obtain ⟨k2, e2, _, h2⟩ := DataW.trod_int Tryz.underlying29 g2
  obtain ⟨k3, e3, _⟩ := DataW.trod_bool Tryz.underlying4 g3
  obtain ⟨k4, h4⟩ := open_bts Tryz.underlying37 Tryz.underlying5 (by kernel_rfl) g4 5
  obtain ⟨x, ux, e5, hx, hux⟩ := ent_cellsE rfl g5
  obtain ⟨k6, e6, _, h6⟩ := DataW.trod_int Tryz.underlying3 g6
  obtain ⟨xs, hxs, hks⟩ := open_evsE g7
  obtain ⟨k8, e8, _, h8⟩ := DataW.trod_int Tryz.underlying3 g8
  obtain ⟨k9, e9, _, h9⟩ := DataW.trod_int Tryz.underlying3 g9
  injection e1 with e1 _
  injection e2 with e2 _
  injection e3 with e3 _
  injection e6 with e6 _
  injection e8 with e8 _
  injection e9 with e9 _
  subst e1 e2 e3 e6 e8 e9
  unfold opc at e0
  unfold entc at e5
  injection e0 with a0 e0
  injection e0 with a1 e0
  injection e0 with a2 e0
  injection e0 with a3 e0
  injection e0 with a4 e0
  injection e0 with a5 e0
  injection e0 with a6 e0
  injection e0 with a7 e0
  injection e0 with a8 e0
  injection e5 with b0 e5
  injection e5 with b1 e5
  injection e5 with b2 e5
  injection e5 with b3 e5
  subst a0 a1 a2 a3 a4 a5 a6 a7 a8 b0 b1 b2 b3
  exact ⟨⟨⟨o, k1, k2, k3, k4, x, k6, xs.map Prod.fst, k8, k9⟩, c3, c12, c14, c18, xs⟩, rfl, ⟨hu, h4, hux, hxs, rfl⟩, ⟨hcu, hks⟩, ⟨ht, htt⟩, ho, hx⟩
structure RsIn (w : World) (v : Value) (qs : List RQ) : Prop where
 form : ∃ A cap, v = .slice A qs.length cap ∧ qs.length ≤ cap ∧ cap ≤ maxLen ∧ (A = none → qs.length = 0) ∧
  (0 < qs.length → ∃ b off, A = some ⟨b, off, none⟩ ∧ (b < w.heap.size ∧ b < w.heap.size) ∧ ∀ i p, qs[i]? = some p → ∀ j u, p.c[j]? = some u → w.cell? ⟨b, off + (i * 21 + j), none⟩ = some u)
 vals : ∀ q ∈ qs, RstIn w q
theorem open_rsts {H : Type} {enc : TypeId × Value → H} {w : World} {v : Value} {d : DataW H} {p : List MemPlace} (hv : ∃ A l c, v = .slice A l c) (h : DataW.Trod enc Tryz.prog w 0 (fun _ => true) true 25 v d p) :
  ∃ qs : List RQ, RsIn w v qs := by
 obtain ⟨A, l, c, rfl⟩ := hv
 obtain ⟨fuel, hf⟩ := h
 obtain ⟨qs, ⟨A', cap, e, h1, h2, h3, h4⟩, hq⟩ := open_rows (α := RQ) (fun q => q.c.toList) 21 (RstIn w) (fun q => rfl) (by decide) Tryz.underlying25 (by kernel_rfl) (fun n cs y hl ht => rst_cellsE hl ht) (by simpa [Value.cells] using hf)
 refine ⟨qs, ⟨⟨A', cap, e, h1, h2, h3, fun h0 => ?_⟩, hq⟩⟩
 obtain ⟨b, off, ha, hb, hc⟩ := h4 h0
 exact ⟨b, off, ha, hb, fun i p hi j u hu => hc i p hi j u (by rw [Array.getElem?_toList]; exact hu)⟩
set_option maxRecDepth 100000 in
theorem open_cfg {H : Type} {enc : TypeId × Value → H} {r : Reach} {b0 : Nat} {w : World} {v : Value} {d : DataW H} {p : List MemPlace} (hv : Value.okWide Tryz.prog w r b0 24 v) (h : DataW.Trod enc Tryz.prog w 0 (fun _ => true) true 24 v d p) : ∃ c : CfgV, v = cfgv c := by
 obtain ⟨cs, rfl, hsz⟩ := okWide_struct Tryz.underlying24 hv
 obtain ⟨fuel, hf⟩ := h
 have h5 : cs.size = 5 := hsz.trans (by kernel_rfl)
 have h6 : cs.toList.length = 5 := by rw [Array.length_toList]; exact h5
 have hf2 : DataW.trod enc Tryz.prog w 0 (fun _ => true) true fuel 24 cs.toList = some (d, p) := hf
 obtain ⟨c, hc⟩ := cfg_cells h6 hf2
 exact ⟨c, congrArg Value.agg (Array.ext' hc)⟩
end Go.Proofs.YtnabbimompapfaaGreat
namespace Go.Proofs.YtnabbimompapfaaGreat
open Go Go.RowKit
theorem RsIn.vals_keep {w w' : World} {v : Value} {qs : List RQ} (h : RsIn w v qs) (hb : Below w.heap.size w w') : ∀ q ∈ qs, ResAt w' w.heap.size q.r q.v1 q.v2 q.v3 q.v4 q.xs := fun q hq => (h.vals q hq).1.keep (KeepB.of_below hb)
theorem RsIn.cap {w : World} {v : Value} {qs : List RQ} (h : RsIn w v qs) : ∃ A cap, v = .slice A qs.length cap ∧ qs.length ≤ cap ∧ cap ≤ maxLen := by obtain ⟨⟨A, cap, e, h1, h2, _⟩, _⟩ := h; exact ⟨A, cap, e, h1, h2⟩
theorem RsIn.rs {w : World} {v : Value} {qs : List RQ} (h : RsIn w v qs) : RsAt w w.heap.size v qs :=
 ⟨h.form, fun q hq => ⟨(h.vals q hq).1, ⟨(h.vals q hq).2.2.1.1, (h.vals q hq).2.2.1.2, (h.vals q hq).2.2.2.1, (by obtain ⟨_, _, _, h2, h3, _⟩ := (h.vals q hq).1.a1; omega)⟩⟩⟩
theorem RsIn.ok {w : World} {v : Value} {qs : List RQ} (h : RsIn w v qs) : ∀ q ∈ qs, RqOk q := fun q hq => (h.vals q hq).2.1
def SmallRet (qs : List RQ) (w : World) (e : Ending) (w' : World) : Prop := ∃ b : Bool, e = .returned (.bool b) ∧ (b = true → qs.length ≤ 60) ∧ Below w.heap.size w w'
theorem SmallRet.no {qs : List RQ} {w w' : World} (h : Below w.heap.size w w') : SmallRet qs w (.returned (.bool false)) w' := ⟨false, rfl, (fun h => by cases h), h⟩
set_option maxRecDepth 100000 in
set_option maxHeartbeats 8000000 in
theorem small_any (Bv : Nat) (lv : Value) (qs : List RQ) (w : World) (h : RsAt w Bv lv qs) :
  Calls Tryz.prog 5 #[lv] w (SmallRet qs w) := by
 obtain ⟨A, cap, rfl, hc, hm⟩ := h.cap
 have HR := zH h
 unfold maxLen at hm
 have hxI : (qs.length : Int) ≤ 9223372036854775807 := by omega
 have hxc : (qs.length : Int) ≤ (cap : Int) := by omega
 obtain ⟨n, hn⟩ : ∃ n, qs.length = n := ⟨_, rfl⟩
 have HN := zH hn
 rw [hn] at HR hxI hxc hc ⊢
 clear h hm hn
 go_enter Tryz.func5, Tryz.ntmps5
 by_cases hl : (60 : Int) < (n : Int)
 ·go_wp2_with fail
  go_ret
  exact SmallRet.no (zL _ _)
 ·go_wp2_with fail
  go_loopw [3] (fun i wr => ∃ (k : Nat), k ≤ n ∧ i = .int .i64 k ∧ Below w.heap.size w wr) (fun i _ => n - (intOf i).toNat)
  case atStart => exact ⟨0, by omega, rfl, zL _ _⟩
  case round =>
   obtain ⟨k, hk, rfl, hbl⟩ := hrel
   have HBl := zH hbl
   clear hbl
   by_cases hkl : k < n
   ·obtain ⟨⟨r, v1, v2, v3, v4, xs⟩, hq⟩ : ∃ q, qs[k]? = some q := ⟨_, List.getElem?_eq_getElem (by rw [HN.out]; exact hkl)⟩
    have HRw := zH (HR.out.keep (KeepB.of_below HBl.out))
    obtain ⟨b, off, hA, -⟩ := HRw.out.at_ hq
    subst hA
    have hkI : (k : Int) < (n : Int) := by omega
    have hk0 : (0 : Int) ≤ (k : Int) := by omega
    have HCl : Hid (∀ j u, (resc r v1 v2 v3 v4).toList[j]? = some u → wr.cell? ((⟨b, off + k * 21, none⟩ : Addr).add j) = some u) := zH (fun j u hu => by
     rw [add_plain]
     exact HRw.out.cell hq j u (by rw [← Array.getElem?_toList]; exact hu))
    have hrv := HRw.out.vals _ (List.mem_of_getElem? hq)
    dsimp only at hrv
    obtain ⟨A1, c1, rfl⟩ := hrv.1.a1.form
    obtain ⟨A2, c2, rfl⟩ := hrv.1.a2.form
    obtain ⟨A3, c3, rfl⟩ := hrv.1.a3.form
    obtain ⟨A4, c4, rfl⟩ := hrv.1.a4.slice
    have HRv := zH hrv
    clear hq hrv
    have HZ : Hid (Blk (wr.alloc (.cells zres 46)) wr.heap.size 46 zres) := zH (Blk.new wr _ zres)
    go_upto_region 7 with (first | (refine wpList_load_at rfl 46 _ rfl ⟨b, off + k * 21, none⟩ rfl (resc r (.slice A1 r.op.val.length c1) (.slice A2 r.val.length c2) (.slice A3 r.ent.val.length c3) (.slice A4 xs.length c4)) _ HCl.out Tryz.underlying46 rfl (by kernel_rfl) ?_) | (refine wpList_store_row rfl 46 _ _ rfl wr.heap.size (resc r (.slice A1 r.op.val.length c1) (.slice A2 r.val.length c2) (.slice A3 r.ent.val.length c3) (.slice A4 xs.length c4)) rfl rfl 46 _ HZ.out (by kernel_rfl) rfl (resc_one _ _ _ _ _ _ _ _ _ _ _ _ _) ?_))
    rw [← zres_eq]
    obtain ⟨hb9, hk9⟩ := fresh_row (w := wr) (cs := zres) (cs' := resc r (.slice A1 r.op.val.length c1) (.slice A2 r.val.length c2) (.slice A3 r.ent.val.length c3) (.slice A4 xs.length c4)) (t := 46)
    generalize World.setRow _ _ _ = w9 at hb9 hk9 ⊢
    have HB9 := zH (HBl.out.trans (hb9.mono HBl.out.size))
    have HE9 := zH (HRv.out.1.a4.keep (KeepB.of_below hb9))
    have HRb := zH hk9
    generalize wr.heap.size = gr at HRb ⊢
    clear hb9 hk9 HCl
    have z2 : w9.cell? ⟨gr, 2, none⟩ = some (.string r.op.key) := HRb.out.cell 2 _ rfl
    have z3 : w9.cell? ⟨gr, 3, none⟩ = some (.slice A1 r.op.val.length c1) := HRb.out.cell 3 _ rfl
    obtain ⟨-, -, -, z12, z13, z14, -, -, -, z18, -⟩ := resB HRb.out
    go_wp2_with fail
    obtain ⟨m, hm⟩ : ∃ m, xs.length = m := ⟨_, rfl⟩
    have HM := zH hm
    rw [hm] at z18 HRb HE9 ⊢
    generalize wrap64 (wrap64 (wrap64 (wrap64 ((r.op.key.size : Int) + (r.op.val.length : Int)) + (r.val.length : Int)) + (r.ent.key.size : Int)) + (r.ent.val.length : Int)) = z0
    have hmI : (m : Int) ≤ 9223372036854775807 := by
     obtain ⟨_, _, e, h2, h3, _⟩ := HE9.out.form
     unfold maxLen at h3
     have := HM.out
     omega
    have HRw9 := zH HRb.out
    have hmc : (m : Int) ≤ (c4 : Int) := by
     obtain ⟨_, _, e, h2, h3, _⟩ := HE9.out.form
     injection e with _ _ e
     have := HM.out
     omega
    clear z2 z3 z12 z13 z14 z18 hm HRb HZ HRv
    go_loopw [5, 6] (fun nn kk W => ∃ (z : Int) (j : Nat), nn = .int .i64 z ∧ kk = .int .i64 j ∧ j ≤ m ∧ j ≤ 101 ∧ Below w9.heap.size w9 W) (fun _ kk _ => m - (intOf kk).toNat)
    case atStart => exact ⟨_, 0, rfl, rfl, Nat.zero_le _, Nat.zero_le _, zL _ _⟩
    case round =>
     obtain ⟨z, j, rfl, rfl, hj, hj1, hbi⟩ := hrel
     have HBi := zH hbi
     clear hbi
     have hb9 := HRw9.out.below HBi.out
     have z18 := (resB hb9).2.2.2.2.2.2.2.2.2.1
     clear hb9
     by_cases h1 : j < m
     ·have h1I : (j : Int) < (m : Int) := by omega
      by_cases h2 : j < 101
      ·have h2I : (j : Int) < 101 := by omega
       have hj0 : (0 : Int) ≤ (j : Int) := by omega
       obtain ⟨⟨x, V⟩, hx⟩ : ∃ p, xs[j]? = some p := ⟨_, List.getElem?_eq_getElem (by rw [HM.out]; exact h1)⟩
       have hE := HE9.out.keep (KeepB.of_below HBi.out)
       obtain ⟨VA, vc, hV⟩ := (hE.vals _ (List.mem_of_getElem? hx)).form
       dsimp only at hV
       subst hV
       obtain ⟨b2, off2, rfl, -, -, y1, y2, -⟩ := hE.at_ hx
       dsimp only at y1 y2
       clear hE hx
       go_upto_region 11 with fail
       go_quiet (fail)
       have HBo := zH (below_drewN HBi.out nq)
       go_wp2_with fail
       go_roundw
       case rel => exact ⟨_, j + 1, rfl, by go_num, by omega, by omega, HBo.out⟩
       case measure => simp [intOf]; omega
      ·have h2I : ¬ (j : Int) < 101 := by omega
       have HBx := zH (HB9.out.trans (HBi.out.mono HB9.out.size))
       have g1 : (100 : Int) < (m : Int) := by omega
       go_wp2_with fail
       go_ret
       exact SmallRet.no HBx.out
     ·have h1I : ¬ (j : Int) < (m : Int) := by omega
      have HBx := zH (HB9.out.trans (HBi.out.mono HB9.out.size))
      by_cases g1 : (100 : Int) < (m : Int)
      ·go_wp2_with fail
       go_ret
       exact SmallRet.no HBx.out
      ·by_cases g2 : (2000 : Int) < z
       ·go_wp2_with fail
        go_ret
        exact SmallRet.no HBx.out
       ·go_wp2_with fail
        go_roundw
        case rel => exact ⟨k + 1, by omega, by go_num, HBx.out⟩
        case measure => simp [intOf]; omega
   ·obtain rfl : k = n := by omega
    go_wp2_with fail
    go_ret
    exact ⟨true, rfl, fun _ => by have := HN.out; omega, HBl.out⟩
end Go.Proofs.YtnabbimompapfaaGreat
namespace Go.Proofs.YtnabbimompapfaaGreat
open Go Go.RowKit
structure EntsAt (w : World) (B : Nat) (v : Value) (ps : List (EntV × Value)) : Prop where
 form : ∃ A cap, v = .slice A ps.length cap ∧ ps.length ≤ cap ∧ cap ≤ maxLen ∧ (A = none → ps.length = 0) ∧
  (0 < ps.length → ∃ b off, A = some ⟨b, off, none⟩ ∧ (b < w.heap.size ∧ b < B) ∧ ∀ i p, ps[i]? = some p → ∀ j u, (entc p.1 p.2)[j]? = some u → w.cell? ⟨b, off + (i * 4 + j), none⟩ = some u)
 vals : ∀ p ∈ ps, Bts w B 5 p.2 p.1.val
section
variable {w w' : World} {B : Nat} {v : Value} {ps : List (EntV × Value)}
theorem EntsAt.keep (h : EntsAt w B v ps) (hb : KeepB B 5 w w') : EntsAt w' B v ps := by
 obtain ⟨⟨A, cap, e, h1, h2, h3, h4⟩, h5⟩ := h
 refine ⟨⟨A, cap, e, h1, h2, h3, fun hp => ?_⟩, fun p hp => (h5 p hp).keep hb⟩
 obtain ⟨b, off, hA, hlt, hc⟩ := h4 hp
 refine ⟨b, off, hA, ⟨Nat.lt_of_lt_of_le hlt.1 hb.1, hlt.2⟩, fun i p hi j u hu => ?_⟩
 rw [World.cell?_of_block (w := w) (a := ⟨b, off + (i * 4 + j), none⟩) (hb.2 b hlt.1 (.inl hlt.2))]
 exact hc i p hi j u hu
theorem EntsAt.below (h : EntsAt w B v ps) (hb : Below w.heap.size w w') : EntsAt w' B v ps := h.keep (KeepB.of_below hb)
theorem EntsAt.cap (h : EntsAt w B v ps) : ∃ A cap, v = .slice A ps.length cap ∧ ps.length ≤ cap ∧ cap ≤ maxLen := by obtain ⟨⟨A, cap, e, h1, h2, _⟩, _⟩ := h; exact ⟨A, cap, e, h1, h2⟩
theorem EntsAt.at_ {A : Option Addr} {n cap : Nat} (h : EntsAt w B (.slice A n cap) ps) {i : Nat} {p : EntV × Value} (hi : ps[i]? = some p) : ∃ b off, A = some ⟨b, off, none⟩ ∧
  w.cell? ⟨b, off + i * 4, none⟩ = some (.string p.1.key) ∧ w.cell? ⟨b, off + i * 4 + 1, none⟩ = some p.2 ∧ w.cell? ⟨b, off + i * 4 + 2, none⟩ = some (.int .u64 p.1.dl) ∧ w.cell? ⟨b, off + i * 4 + 3, none⟩ = some (.int .u64 p.1.birth) := by
 obtain ⟨⟨A', cap', e, h1, h2, h3, h4⟩, h5⟩ := h
 injection e with e1 e2 e3
 subst e1
 have hl := (List.getElem?_eq_some_iff.1 hi).1
 obtain ⟨b, off, hA, hlt, hc⟩ := h4 (by omega)
 exact ⟨b, off, hA, hc i p hi 0 _ rfl, hc i p hi 1 _ rfl, hc i p hi 2 _ rfl, hc i p hi 3 _ rfl⟩
theorem EntsAt.nil (w : World) (B : Nat) : EntsAt w B (.slice none 0 0) [] := ⟨⟨none, 0, rfl, zN _, Nat.zero_le _, fun _ => rfl, fun h => by simp at h⟩, by simp⟩
theorem EntsAt.of_own {base B : Nat} (h : w.ownsRow base 40 4 v ps.length (ecs ps)) (hB : w.heap.size ≤ B) (hv : ∀ p ∈ ps, Bts w B 5 p.2 p.1.val) : EntsAt w B v ps := by
 refine ⟨?_, hv⟩
 obtain ⟨A, cap, rfl, h1, h2⟩ := own_form h
 rcases h.2 with ⟨e, h0⟩ | ⟨g, cap', cur, e, hg, hh, _⟩
 ·injection e with e1 e2 e3
  exact ⟨A, cap, rfl, h1, h2, fun _ => h0, fun h => by omega⟩
 ·injection e with e1 e2 e3
  subst e1
  refine ⟨_, cap, rfl, h1, h2, (fun h => by cases h), fun h0 => ⟨g, 0, rfl, ⟨lt_of_heap hh, Nat.lt_of_lt_of_le (lt_of_heap hh) hB⟩, fun i p hi j u hu => ?_⟩⟩
  have hj : j < 4 := by have := (Array.getElem?_eq_some_iff.1 hu).1; simpa [entc] using this
  have := h.cells (g := g) rfl (i * 4 + j) u ((ecs_at ps i j p hi hj).trans (by rw [← hu]; simp [entc]))
  rw [add_plain] at this
  exact this
end
def LvRet (x : List EntV × Int) (w : World) (e : Ending) (w' : World) : Prop :=
 ∃ v ps, e = .returned (.tuple #[v, .int .i64 x.2]) ∧ EntsAt w' w'.heap.size v ps ∧ ps.map Prod.fst = x.1 ∧ Below w.heap.size w w'
set_option maxRecDepth 100000 in
set_option maxHeartbeats 8000000 in
theorem kLive_any (Bv : Nat) (c : CfgV) (lv : Value) (qs : List RQ) (w : World) (h : RsAt w Bv lv qs) (hBv : Bv ≤ w.heap.size) (hn : qs.length ≤ 60000) :
  Calls Tryz.prog 10 #[cfgv c, lv] w (LvRet (liveP c (qs.map RQ.r)) w) := by
 obtain ⟨A, cap, rfl, hc, hm⟩ := h.cap
 have HR := zH h
 have HBv := zH hBv
 unfold maxLen at hm
 have hxI : (qs.length : Int) ≤ 60000 := by omega
 have hxc : (qs.length : Int) ≤ (cap : Int) := by omega
 have HN := zH hn
 obtain ⟨⟨ci, cx, ce⟩, hce⟩ : ∃ x, checkP c (qs.map RQ.r) = x := ⟨_, rfl⟩
 have HCe := zH hce
 have HCk := zH (fun W (hW : RsAt W Bv (.slice A qs.length cap) qs) (hB : Bv ≤ W.heap.size) => hce ▸ kCheck_any Bv c _ qs W hW hB hn)
 unfold cfgv cfgc at HCk ⊢
 clear h hBv hn hm hc hce
 go_enter Tryz.func10, Tryz.ntmps10
 go_wp2_with fail
 refine (HCk.out _ (HR.out.below ((zL _ _).alloc (zN _) _)) (by have := HBv.out; simp; omega)).mono ?_
 rintro e w1 ⟨rfl, hb1⟩
 have HB1 : Hid (Below w.heap.size w w1) := zH (below_own hb1)
 have HC1 : Hid (Blk w1 w.heap.size 24 #[.int .i64 c.count, .int .i64 c.bytes, .int .i64 c.prot, .int .u64 c.seed, .bool c.same]) := zH ((Blk.new w _ _).below hb1)
 clear hb1
 dsimp only
 by_cases he0 : ce = 0
 ·subst he0
  by_cases hx0 : cx = 0
  ·subst hx0
   have x0 : World.cell? w1 ⟨w.heap.size, 0, none⟩ = some (.int .i64 c.count) := HC1.out.cell 0 _ rfl
   have x1 : World.cell? w1 ⟨w.heap.size, 1, none⟩ = some (.int .i64 c.bytes) := HC1.out.cell 1 _ rfl
   have x2 : World.cell? w1 ⟨w.heap.size, 2, none⟩ = some (.int .i64 c.prot) := HC1.out.cell 2 _ rfl
   have x3 : World.cell? w1 ⟨w.heap.size, 3, none⟩ = some (.int .u64 c.seed) := HC1.out.cell 3 _ rfl
   have x4 : World.cell? w1 ⟨w.heap.size, 4, none⟩ = some (.bool c.same) := HC1.out.cell 4 _ rfl
   have HL0 : Hid (liveP c (qs.map RQ.r) = ((jall (qs.map RQ.r) (start c) 0).2.L, 0)) := zH (by
    unfold liveP
    rw [HCe.out, if_neg (by simp), if_neg (by simp)])
   have HJa : Hid ((jall (qs.map RQ.r) (start c) 0).1.2 = 0) := zH (by
    have := HCe.out
    unfold checkP at this
    split at this
    ·rename_i hh; injection this with _ h2; injection h2 with _ h3; exact absurd h3 hh
    ·split at this
     ·injection this with _ h2; injection h2 with _ h3; cases h3
     ·injection this with _ h2; injection h2 with h3 _)
   go_upto_region 7 with fail
   obtain ⟨cs, hcs⟩ : ∃ cs, KStart c cs := ⟨_, rfl⟩
   have hcs2 := hcs
   unfold KStart at hcs2
   rw [← hcs2]
   clear hcs2
   have HB2 : Hid (Below w.heap.size w (w1.alloc (.cells cs 61))) := zH (HB1.out.alloc HB1.out.size _)
   have HK2 := zH (KRep.start hcs (Blk.new w1 _ cs) HB1.out.size)
   clear hcs x0 x1 x2 x3 x4
   generalize w1.heap.size = g at HK2 ⊢
   generalize World.alloc _ _ = w2 at HB2 HK2 ⊢
   go_wp2_with fail
   go_loopw [10] (fun i wr => ∃ (k : Nat) (vL vU : Value) (pv : Nat → Int) (s : PJ) (ps : List (EntV × Value)), k ≤ qs.length ∧ i = .int .i64 k ∧ jall ((qs.drop k).map RQ.r) s k = jall (qs.map RQ.r) (start c) 0 ∧ PInv k s ∧ KRep wr w.heap.size g vL vU pv s ps ∧ Below w.heap.size w wr) (fun i _ => qs.length - (intOf i).toNat)
   case atStart => exact ⟨0, _, _, _, _, _, by omega, rfl, rfl, start_inv c, HK2.out, HB2.out⟩
   case round =>
    obtain ⟨k, vL, vU, pv, s, ps, hk, rfl, hj, hi, hkr, hbl⟩ := hrel
    have HJ := zH hj
    have HI := zH hi
    have HK := zH hkr
    have HBl := zH hbl
    clear hj hi hkr hbl
    by_cases hkl : k < qs.length
    ·obtain ⟨q, hq⟩ : ∃ q, qs[k]? = some q := ⟨_, List.getElem?_eq_getElem hkl⟩
     have HRw := zH (HR.out.keep (KeepB.of_below HBl.out))
     obtain ⟨b, off, hA, -⟩ := HRw.out.at_ hq
     subst hA
     have HQ := zH hq
     have HDr : Hid ((qs.drop k).map RQ.r = q.r :: (qs.drop (k + 1)).map RQ.r) := zH (by
      obtain ⟨h1, h2⟩ := List.getElem?_eq_some_iff.1 hq
      rw [List.drop_eq_getElem_cons h1, h2]; rfl)
     have hkI : (k : Int) < (qs.length : Int) := by omega
     have hk0 : (0 : Int) ≤ (k : Int) := by omega
     have HCl : Hid (∀ j u, (resc q.r q.v1 q.v2 q.v3 q.v4).toList[j]? = some u → wr.cell? ((⟨b, off + k * 21, none⟩ : Addr).add j) = some u) := zH (fun j u hu => by
      rw [add_plain]
      exact HRw.out.cell hq j u (by rw [← Array.getElem?_toList]; exact hu))
     have HRv := zH (HRw.out.vals q (List.mem_of_getElem? hq))
     clear hq
     go_wp2_with (refine wpList_load_at rfl 46 _ rfl ⟨b, off + k * 21, none⟩ rfl (resc q.r q.v1 q.v2 q.v3 q.v4) _ HCl.out Tryz.underlying46 rfl (by kernel_rfl) ?_)
     refine (kJudge_any w.heap.size Bv g vL vU pv s ps q.r q.v1 q.v2 q.v3 q.v4 q.xs k wr HK.out HI.out (by have := HN.out; omega) HBl.out.size HRv.out.1 HBv.out HRv.out.2).mono ?_
     rintro e w3 hret
     obtain ⟨res, hres⟩ : ∃ res, jstep s q.r = res := ⟨_, rfl⟩
     have HRes := zH hres
     rw [hres] at hret
     clear hres
     cases res with
     |error y =>
      exfalso
      have hy := jstep_err HRes.out
      have := HJa.out
      rw [← HJ.out, HDr.out, jall_cons, HRes.out] at this
      exact hy this
     |ok s2 =>
      obtain ⟨he, vL4, vU4, pv4, ps4, hk4⟩ := hret.2.2 s2 rfl
      have ho4 := hret.1
      subst he
      have HB4 := zH (HBl.out.trans (KS.below ho4 HBl.out.size))
      have HK4 := zH hk4
      have HJ4 : Hid (jall ((qs.drop (k + 1)).map RQ.r) s2 (k + 1) = jall (qs.map RQ.r) (start c) 0) := zH (by
       rw [← HJ.out, HDr.out, jall_cons, HRes.out])
      have HI4 := zH (jstep_inv HI.out HRv.out.2.ticks HRv.out.2.ttl HRes.out)
      clear hret hk4 ho4
      go_wp2_with fail
      go_roundw
      case rel => exact ⟨k + 1, _, _, _, _, _, by omega, by go_num, HJ4.out, HI4.out, HK4.out, HB4.out⟩
      case measure => simp [intOf]; omega
    ·obtain rfl : k = qs.length := by omega
     obtain ⟨LA, lc, rfl, _, _⟩ := own_form HK.out.L
     have x7 : World.cell? wr ⟨g, 7, none⟩ = some (.slice LA ps.length lc) := HK.out.cell 7 (by omega)
     have HS : Hid (liveP c (qs.map RQ.r) = (s.L, 0)) := zH (by
      rw [HL0.out, ← HJ.out, List.drop_length]; rfl)
     go_wp2_with fail
     refine bodyPost_ret (v := .tuple #[.slice LA ps.length lc, .int .i64 (0)]) (by simp [results, Tryz.results10, go_sem]) rfl ⟨_, ps, by rw [HS.out], EntsAt.of_own HK.out.L (zN _) (fun p hp => (HK.out.vals p hp).up2 HBl.out.size), by rw [HS.out]; exact HK.out.map, HBl.out⟩
  ·have hxb : (cx != 0) = true := by simp [hx0]
   have HS : Hid (liveP c (qs.map RQ.r) = ([], 10)) := zH (by
    unfold liveP
    rw [HCe.out, if_neg (by simp), if_pos hx0])
   clear hx0
   go_wp2_with fail
   refine bodyPost_ret (v := .tuple #[.slice none 0 0, .int .i64 (10)]) (by simp [results, Tryz.results10, go_sem]) rfl ⟨_, [], by rw [HS.out], EntsAt.nil _ _, by rw [HS.out]; rfl, HB1.out⟩
 ·have heb : (ce != 0) = true := by simp [he0]
  have HS : Hid (liveP c (qs.map RQ.r) = ([], ce)) := zH (by
   unfold liveP
   rw [HCe.out, if_pos he0])
  clear he0
  go_wp2_with fail
  refine bodyPost_ret (v := .tuple #[.slice none 0 0, .int .i64 (ce)]) (by simp [results, Tryz.results10, go_sem]) rfl ⟨_, [], by rw [HS.out], EntsAt.nil _ _, by rw [HS.out]; rfl, HB1.out⟩
end Go.Proofs.YtnabbimompapfaaGreat
namespace Go.Proofs.YtnabbimompapfaaGreat
open Go Go.RowKit Go.MapKept Go.Maps
set_option maxHeartbeats 1000000 in
theorem live1_any (w : World) (its : List It) : PredIs w 18 #[] its (fun _ => true) := by
 refine ⟨enters_of Tryz.func18 (by kernel_rfl) rfl, fun x hx W hW => ?_⟩
 clear hx hW
 show Calls Tryz.prog _ #[ptrI x.b] W _
 unfold ptrI
 go_enter Tryz.func18, Tryz.ntmps18
 go_wp2_with fail
 go_ret
 exact ⟨rfl, Gr.refl _⟩
theorem src_en (w : World) (x : EntV) (V : Value) : Src (w.alloc (.cells #[.string x.key, V, .int .u64 x.dl, .int .u64 x.birth] 40)) 4 (some ⟨w.heap.size, 0, none⟩) 1 (ecs [(x, V)]) := by
 have e1 : ecs [(x, V)] = [.string x.key, V, .int .u64 x.dl, .int .u64 x.birth] := by simp [ecs]
 refine ⟨by rw [e1]; rfl, (fun h => by cases h), fun a ha j v hu => ?_⟩
 cases ha
 rw [add_plain, Nat.zero_add]
 refine (Blk.new w _ _).cell j v ?_
 rw [e1] at hu
 simpa using hu
def LvRetJ (x : List EntV × Int) (w : World) (e : Ending) (w' : World) : Prop :=
 ∃ v ps base, e = .returned (.tuple #[v, .int .i64 x.2]) ∧ w.heap.size ≤ base ∧ w'.ownsRow base 40 4 v ps.length (ecs ps) ∧ (∀ p ∈ ps, Bts w' w'.heap.size 5 p.2 p.1.val ∧ OwnV w' w.heap.size p.2) ∧ ps.map Prod.fst = x.1 ∧ Below w.heap.size w w'
set_option maxRecDepth 100000 in
set_option maxHeartbeats 8000000 in
theorem live_any (Bv : Nat) (c : CfgV) (lv : Value) (qs : List RQ) (w : World) (h : RsAt w Bv lv qs) (hq : ∀ q ∈ qs, RqOk q) (hBv : Bv ≤ w.heap.size) (hn : qs.length ≤ 60000) :
  Calls Tryz.prog 9 #[cfgv c, lv] w (LvRetJ (liveP c (qs.map RQ.r)) w) := by
 obtain ⟨A, cap, rfl, hc, hm⟩ := h.cap
 have HC0 : Hid (Blk (w.alloc (.cells #[.int .i64 c.count, .int .i64 c.bytes, .int .i64 c.prot, .int .u64 c.seed, .bool c.same] 24)) w.heap.size 24 #[.int .i64 c.count, .int .i64 c.bytes, .int .i64 c.prot, .int .u64 c.seed, .bool c.same]) := zH (Blk.new w _ _)
 have hbl : Below w.heap.size w (w.alloc (.cells #[.int .i64 c.count, .int .i64 c.bytes, .int .i64 c.prot, .int .u64 c.seed, .bool c.same] 24)) := (zL _ _).alloc (zN _) _
 have HRn := zH (run_any Bv c _ qs _ (h.below hbl) hq (Nat.le_trans hBv hbl.size) hn)
 unfold cfgv cfgc at HRn ⊢
 obtain ⟨X, hX⟩ : ∃ X, checkP c (qs.map RQ.r) = X := ⟨_, rfl⟩
 have HX := zH hX
 obtain ⟨X1, X2, X3⟩ := X
 have HN := zH hn
 obtain ⟨i0, hi0, hz0, hz1, hz2⟩ := info_parts entI_info
 clear h hq hBv hn hbl hX hc hm
 go_enter Tryz.func9, Tryz.ntmps9
 have x0 : World.cell? (w.alloc (.cells #[.int .i64 c.count, .int .i64 c.bytes, .int .i64 c.prot, .int .u64 c.seed, .bool c.same] 24)) ⟨w.heap.size, 0, none⟩ = some (.int .i64 c.count) := HC0.out.cell 0 _ rfl
 have x1 : World.cell? (w.alloc (.cells #[.int .i64 c.count, .int .i64 c.bytes, .int .i64 c.prot, .int .u64 c.seed, .bool c.same] 24)) ⟨w.heap.size, 1, none⟩ = some (.int .i64 c.bytes) := HC0.out.cell 1 _ rfl
 have x2 : World.cell? (w.alloc (.cells #[.int .i64 c.count, .int .i64 c.bytes, .int .i64 c.prot, .int .u64 c.seed, .bool c.same] 24)) ⟨w.heap.size, 2, none⟩ = some (.int .i64 c.prot) := HC0.out.cell 2 _ rfl
 have x3 : World.cell? (w.alloc (.cells #[.int .i64 c.count, .int .i64 c.bytes, .int .i64 c.prot, .int .u64 c.seed, .bool c.same] 24)) ⟨w.heap.size, 3, none⟩ = some (.int .u64 c.seed) := HC0.out.cell 3 _ rfl
 have x4 : World.cell? (w.alloc (.cells #[.int .i64 c.count, .int .i64 c.bytes, .int .i64 c.prot, .int .u64 c.seed, .bool c.same] 24)) ⟨w.heap.size, 4, none⟩ = some (.bool c.same) := HC0.out.cell 4 _ rfl
 go_wp2_with fail
 refine HRn.out.mono ?_
 rintro e w2 ⟨J, he, hb2, hj⟩
 rw [HX.out] at he hj
 subst he
 have HB2 : Hid (Below w.heap.size w w2) := zH (below_own hb2)
 clear hb2 x0 x1 x2 x3 x4 HC0 HRn
 by_cases he0 : X3 = 0
 ·subst he0
  by_cases hx0 : X2 = 0
  ·subst hx0
   obtain ⟨g, gm, gp, us, its, P, rfl, hi, hrep⟩ := hj rfl rfl
   obtain ⟨s, hs⟩ : ∃ s, (jall (qs.map RQ.r) (start c) 0).2 = s := ⟨_, rfl⟩
   rw [hs] at hi hrep
   have HI := zH hi
   have HJ2 : Hid (JRep w2 (w.heap.size + 1) g gm gp us s its P) := zH (by rw [World.size_alloc] at hrep; exact hrep)
   have HS : Hid (liveP c (qs.map RQ.r) = (s.L, 0)) := zH (by
    unfold liveP
    rw [HX.out, if_neg (by simp), if_neg (by simp), hs])
   have HL : Hid (its.length ≤ 60000) := zH (by have := hrep.lenI; have := hi.lenL; rw [List.length_map] at this; have := HN.out; omega)
   clear hs hi hrep hj
   have HSo := zH (sorted_any (w.heap.size + 1) g gm gp us s its P w2 HJ2.out (by have := HL.out; omega) _ _ _ (live1_any w2 its) _ _ cmpIs_birth)
   go_wp2_with fail
   refine HSo.out.mono ?_
   rintro e w3 ⟨A3, n3, c3, ys, rfl, hrow, hperm, hord, hb3⟩
   have HYe : Hid (ys.map It.e = s.L) := zH (by
    have he := sortB_eq (q := fun _ => true) HI.out.asc HJ2.out.perm (fun _ => rfl) hperm (hord.imp (fun h => by omega))
    have hft : s.L.filter (fun _ => true) = s.L := List.filter_eq_self.2 (fun _ _ => rfl)
    rwa [hft] at he)
   have HYm : Hid (∀ x ∈ ys, x ∈ its) := zH (fun x hx => (List.mem_filter.1 (hperm.mem_iff.1 hx)).1)
   have hlen := hrow.len
   rw [List.length_map] at hlen
   have hcap := hrow.cap
   have HYl : Hid (ys.length ≤ 60000) := zH (by
    have := hperm.length_eq
    have h2 := List.length_filter_le (fun _ => true) its
    have := HL.out
    omega)
   have hyI : (ys.length : Int) ≤ 60000 := by have := HYl.out; omega
   have HRow := zH hrow
   have HJ3 := zH (HJ2.out.below hb3)
   have HB3 := zH (HB2.out.trans (hb3.mono HB2.out.size))
   subst hlen
   clear hrow hperm hord hb3 HSo HJ2
   go_wp2_with fail
   go_loopw [10, 31] (fun o i wr => ∃ (k : Nat), k ≤ ys.length ∧ i = .int .i64 k ∧ Below w3.heap.size w3 wr ∧ wr.ownsRow w3.heap.size 40 4 o k (ecs ((ys.take k).map fun x => (x.e, x.v)))) (fun _ i _ => ys.length - (intOf i).toNat)
   case atStart => exact ⟨0, Nat.zero_le _, rfl, zL _ _, World.ownsRow_nil _ _ _ _⟩
   case round =>
    obtain ⟨k, hk, rfl, hbr, hown⟩ := hrel
    have HBr := zH hbr
    have HO := zH hown
    clear hbr hown
    by_cases hkl : k < ys.length
    ·obtain ⟨gr, x, hA, -, hgr, hx, hcell⟩ := HRow.out.at_ hkl
     subst hA
     have HXi : Hid (x ∈ its) := zH (HYm.out x (List.mem_of_getElem? hx))
     have HT : Hid ((ys.take (k + 1)).map (fun x => (x.e, x.v)) = (ys.take k).map (fun x => (x.e, x.v)) ++ [(x.e, x.v)]) := zH (by
      rw [List.take_add_one, hx, List.map_append, Option.toList_some, List.map_singleton])
     have hjr := HJ3.out.below HBr.out
     obtain ⟨VA, vc, hV⟩ := (hjr.vals x HXi.out).form
     have hcell2 := (HBr.out.cell (p := ⟨gr, k, none⟩) hgr).trans hcell
     unfold ptrI at hcell2
     obtain ⟨y0, y1, y2, y3, -, -⟩ := (hjr.ib x HXi.out).cells
     rw [hV] at y1
     have HVx := zH hV
     have hkI : (k : Int) < (ys.length : Int) := by omega
     have hk0 : (0 : Int) ≤ (k : Int) := by omega
     obtain ⟨oA, oc, rfl, ol1, ol2⟩ := own_form HO.out
     clear hx hcell hgr hjr hV
     go_wp2_with (at_builtin; go_loud (refine wpList_append_src _ rfl _ _ _ rfl w3.heap.size 40 i0 _ 4 56 Tryz.underlying33 hi0 hz0 hz1 hz2 rfl (by decide) _ k (ecs ((ys.take k).map fun x => (x.e, x.v))) rfl (own_later' HO.out ((zL _ _).alloc (zN _) _)) (some ⟨wr.heap.size, 0, none⟩) 1 1 (ecs [(x.e, .slice VA x.e.val.length vc)]) rfl (src_en wr x.e _) (ecs_one _ (fun p hp => by rw [List.mem_singleton.1 hp]; exact ⟨_, _, _, rfl⟩)) (by have := HYl.out; unfold maxLen; omega) (by have := HYl.out; omega) (by have := HBr.out.size; simp; omega) ?_; intro v8 w8 hown8 hg8 hat8))
     have HO8 : Hid (w8.ownsRow w3.heap.size 40 4 v8 (k + 1) (ecs ((ys.take (k + 1)).map fun x => (x.e, x.v)))) := zH (by
      rw [HT.out, ecs_append, HVx.out]
      exact hown8)
     have HB8 : Hid (Below w3.heap.size w3 w8) := zH ((HBr.out.alloc HBr.out.size _).grown hg8 (HBr.out.alloc HBr.out.size _).size (fun k hk => (row_heap' HO.out hk).1))
     clear hown8 hg8 hat8
     go_roundw
     case rel => exact ⟨k + 1, by omega, by go_num, HB8.out, HO8.out⟩
     case measure => simp [intOf]; omega
    ·obtain rfl : k = ys.length := by omega
     obtain ⟨oA, oc, rfl, _, _⟩ := own_form HO.out
     have hjr := HJ3.out.below HBr.out
     have HVs : Hid (∀ p ∈ ys.map (fun x => (x.e, x.v)), Bts wr wr.heap.size 5 p.2 p.1.val ∧ OwnV wr w.heap.size p.2) := zH (fun p hp => by
      obtain ⟨x, hx, rfl⟩ := List.mem_map.1 hp
      have hxi := HYm.out x hx
      exact ⟨(hjr.vals x hxi).up2 (by have := hjr.base.1; have := hjr.blk.lt; omega), (hjr.apart.2 x hxi).weak (Nat.le_succ _)⟩)
     have HOe : Hid (wr.ownsRow w3.heap.size 40 4 (.slice oA ys.length oc) (ys.map fun x => (x.e, x.v)).length (ecs (ys.map fun x => (x.e, x.v)))) := zH (by
      have := HO.out
      rw [List.take_length] at this
      rw [List.length_map]
      exact this)
     have HB9 := zH (HB3.out.trans (HBr.out.mono HB3.out.size))
     have HMp : Hid ((ys.map fun x => (x.e, x.v)).map Prod.fst = s.L) := zH (by rw [List.map_map, ← HYe.out]; rfl)
     clear hjr
     go_wp2_with fail
     refine bodyPost_ret (v := .tuple #[.slice oA ys.length oc, .int .i64 0]) (by simp [results, Tryz.results9, go_sem]) rfl ⟨_, ys.map fun x => (x.e, x.v), w3.heap.size, by rw [HS.out], HB3.out.size, HOe.out, HVs.out, by rw [HS.out]; exact HMp.out, HB9.out⟩
  ·have hxb : (X2 != 0) = true := by simp [hx0]
   have HS : Hid (liveP c (qs.map RQ.r) = ([], 10)) := zH (by
    unfold liveP
    rw [HX.out, if_neg (by simp), if_pos hx0])
   clear hx0 hj
   go_wp2_with fail
   refine bodyPost_ret (v := .tuple #[.slice none 0 0, .int .i64 (10)]) (by simp [results, Tryz.results9, go_sem]) rfl ⟨_, [], _, by rw [HS.out], zN _, World.ownsRow_nil _ _ _ _, (fun p hp => by cases hp), by rw [HS.out]; rfl, HB2.out⟩
 ·have heb : (X3 != 0) = true := by simp [he0]
  have HS : Hid (liveP c (qs.map RQ.r) = ([], X3)) := zH (by
   unfold liveP
   rw [HX.out, if_pos he0])
  clear he0 hj
  go_wp2_with fail
  refine bodyPost_ret (v := .tuple #[.slice none 0 0, .int .i64 (X3)]) (by simp [results, Tryz.results9, go_sem]) rfl ⟨_, [], _, by rw [HS.out], zN _, World.ownsRow_nil _ _ _ _, (fun p hp => by cases hp), by rw [HS.out]; rfl, HB2.out⟩
end Go.Proofs.YtnabbimompapfaaGreat
namespace Go.Proofs.YtnabbimompapfaaGreat
open Go Go.RowKit
set_option maxRecDepth 100000 in
set_option maxHeartbeats 8000000 in
theorem judged_any (Bv : Nat) (c : CfgV) (lv : Value) (qs : List RQ) (want x : Int) (w : World) (h : RsAt w Bv lv qs) (hq : ∀ q ∈ qs, RqOk q) (hBv : Bv ≤ w.heap.size) (hn : qs.length ≤ 60000) :
  Calls Tryz.prog 13 #[cfgv c, lv, .int .i64 want, .int .i64 x] w fun e w' => e = .returned (.bool (decide (checkP c (qs.map RQ.r) = (want, x, 0)))) ∧ Below w.heap.size w w' := by
 obtain ⟨A, cap, rfl, hc, hm⟩ := h.cap
 have HC0 : Hid (Blk (w.alloc (.cells #[.int .i64 c.count, .int .i64 c.bytes, .int .i64 c.prot, .int .u64 c.seed, .bool c.same] 24)) w.heap.size 24 #[.int .i64 c.count, .int .i64 c.bytes, .int .i64 c.prot, .int .u64 c.seed, .bool c.same]) := zH (Blk.new w _ _)
 have hbl : Below w.heap.size w (w.alloc (.cells #[.int .i64 c.count, .int .i64 c.bytes, .int .i64 c.prot, .int .u64 c.seed, .bool c.same] 24)) := (zL _ _).alloc (zN _) _
 have HRn := zH (auditCheck_any Bv c _ qs _ (h.below hbl) hq (Nat.le_trans hBv hbl.size) hn)
 unfold cfgv cfgc at HRn ⊢
 obtain ⟨X, hX⟩ : ∃ X, checkP c (qs.map RQ.r) = X := ⟨_, rfl⟩
 obtain ⟨X1, X2, X3⟩ := X
 rw [hX] at HRn ⊢
 clear h hq hBv hn hbl hX hc hm
 go_enter Tryz.func13, Tryz.ntmps13
 have x0 : World.cell? (w.alloc (.cells #[.int .i64 c.count, .int .i64 c.bytes, .int .i64 c.prot, .int .u64 c.seed, .bool c.same] 24)) ⟨w.heap.size, 0, none⟩ = some (.int .i64 c.count) := HC0.out.cell 0 _ rfl
 have x1 : World.cell? (w.alloc (.cells #[.int .i64 c.count, .int .i64 c.bytes, .int .i64 c.prot, .int .u64 c.seed, .bool c.same] 24)) ⟨w.heap.size, 1, none⟩ = some (.int .i64 c.bytes) := HC0.out.cell 1 _ rfl
 have x2 : World.cell? (w.alloc (.cells #[.int .i64 c.count, .int .i64 c.bytes, .int .i64 c.prot, .int .u64 c.seed, .bool c.same] 24)) ⟨w.heap.size, 2, none⟩ = some (.int .i64 c.prot) := HC0.out.cell 2 _ rfl
 have x3 : World.cell? (w.alloc (.cells #[.int .i64 c.count, .int .i64 c.bytes, .int .i64 c.prot, .int .u64 c.seed, .bool c.same] 24)) ⟨w.heap.size, 3, none⟩ = some (.int .u64 c.seed) := HC0.out.cell 3 _ rfl
 have x4 : World.cell? (w.alloc (.cells #[.int .i64 c.count, .int .i64 c.bytes, .int .i64 c.prot, .int .u64 c.seed, .bool c.same] 24)) ⟨w.heap.size, 4, none⟩ = some (.bool c.same) := HC0.out.cell 4 _ rfl
 go_wp2_with fail
 refine HRn.out.mono ?_
 rintro e w2 ⟨rfl, hb2⟩
 have HB2 : Hid (Below w.heap.size w w2) := zH (below_own hb2)
 clear hb2 x0 x1 x2 x3 x4
 dsimp only
 by_cases h1 : X1 = want
 ·have q1 : (X1 == want) = true := by simp [h1]
  by_cases h2 : X2 = x
  ·have q2 : (X2 == x) = true := by simp [h2]
   by_cases h3 : X3 = 0
   ·have q3 : (X3 == 0) = true := by simp [h3]
    have HS : Hid (decide ((X1, X2, X3) = (want, x, (0 : Int))) = true) := zH (decide_eq_true (by rw [h1, h2, h3]))
    clear h1 h2 h3
    go_wp2_with fail
    go_ret
    exact ⟨by rw [HS.out]; rfl, HB2.out⟩
   ·have q3 : (X3 == 0) = false := by simp [h3]
    have HS : Hid (decide ((X1, X2, X3) = (want, x, (0 : Int))) = false) := zH (decide_eq_false (fun e => by injection e with _ e; injection e with _ e; exact h3 e))
    clear h1 h2 h3
    go_wp2_with fail
    go_ret
    exact ⟨by rw [HS.out]; rfl, HB2.out⟩
  ·have q2 : (X2 == x) = false := by simp [h2]
   have HS : Hid (decide ((X1, X2, X3) = (want, x, (0 : Int))) = false) := zH (decide_eq_false (fun e => by injection e with _ e; injection e with e _; exact h2 e))
   clear h1 h2
   go_wp2_with fail
   go_ret
   exact ⟨by rw [HS.out]; rfl, HB2.out⟩
 ·have q1 : (X1 == want) = false := by simp [h1]
  have HS : Hid (decide ((X1, X2, X3) = (want, x, (0 : Int))) = false) := zH (decide_eq_false (fun e => by injection e with e _; exact h1 e))
  clear h1
  go_wp2_with fail
  go_ret
  exact ⟨by rw [HS.out]; rfl, HB2.out⟩
def ka : ByteArray := ⟨#[97]⟩
def gr1 (cost : Int) : ResV := ⟨⟨1, 0, ka, [120], 0, 0, 0, 0, 0⟩, 0, 0, false, [], ⟨⟨#[]⟩, [], 0, 0⟩, 0, [], 1, cost⟩
def gr2 (at_ err : Int) (hit : Bool) (evs : List EvV) (len cost : Int) : ResV := ⟨⟨3, 3, ka, [], 0, 0, 0, 0, 0⟩, at_, err, hit, [120], ⟨⟨#[]⟩, [], 0, 0⟩, 0, evs, len, cost⟩
def bx (h : Nat) : Value := .slice (some ⟨h, 0, none⟩) 1 1
def nx : Value := .slice none 0 0
def gcs (h1 h2 : Nat) (r1 r2 : ResV) (v4 : Value) : Array Value := ((resc r1 (bx h1) nx nx nx).toList ++ (resc r2 nx (bx h2) nx v4).toList).toArray
theorem resc_len (r : ResV) (a b c d : Value) : (resc r a b c d).toList.length = 21 := rfl
structure Gv (W : World) (g h1 h2 : Nat) (r1 r2 : ResV) (v4 : Value) : Prop where
 b1 : ∃ fr, W.heap[h1]? = some (.cells #[.int .u8 120] 5 fr)
 b2 : ∃ fr, W.heap[h2]? = some (.cells #[.int .u8 120] 5 fr)
 row : Blk W g 46 (gcs h1 h2 r1 r2 v4)
section
variable {W W' : World} {g h1 h2 : Nat} {r1 r2 : ResV} {v4 : Value}
theorem Gv.keep (h : Gv W g h1 h2 r1 r2 v4) {S : Nat → Prop} (ho : Only S W W') (hS : ∀ k, S k → k ≠ g ∧ ∀ c fr, W.heap[k]? ≠ some (.cells c 5 fr)) : Gv W' g h1 h2 r1 r2 v4 := by
 obtain ⟨⟨f1, e1⟩, ⟨f2, e2⟩, h3⟩ := h
 refine ⟨⟨f1, (ho.block h1 (lt_of_heap e1) (fun hs => (hS _ hs).2 _ _ e1)).trans e1⟩, ⟨f2, (ho.block h2 (lt_of_heap e2) (fun hs => (hS _ hs).2 _ _ e2)).trans e2⟩, h3.only ho (fun hs => (hS _ hs).1 rfl)⟩
theorem Gv.below (h : Gv W g h1 h2 r1 r2 v4) (hb : Below W.heap.size W W') : Gv W' g h1 h2 r1 r2 v4 :=
 h.keep (S := fun _ => False) (Only.of_below hb) (fun _ e => e.elim)
theorem Gv.set_ (h : Gv W g h1 h2 r1 r2 v4) (i : Nat) (u : Value) {r1' r2' : ResV} {v4' : Value} (hc : (gcs h1 h2 r1 r2 v4).setIfInBounds i u = gcs h1 h2 r1' r2' v4') : Gv (W.setCell ⟨g, i, none⟩ u) g h1 h2 r1' r2' v4' := by
 have ho := Only.set1 W g i u
 obtain ⟨⟨f1, e1⟩, ⟨f2, e2⟩, h3⟩ := h
 have hn : ∀ k fr, W.heap[k]? = some (.cells #[.int .u8 120] 5 fr) → k ≠ g := fun k fr e hk => by
  subst hk
  unfold Blk at h3
  rw [h3] at e
  injection e with e
  injection e with _ e _
  exact absurd e (by decide)
 exact ⟨⟨f1, (ho.block h1 (lt_of_heap e1) (hn _ _ e1)).trans e1⟩, ⟨f2, (ho.block h2 (lt_of_heap e2) (hn _ _ e2)).trans e2⟩, hc ▸ h3.set_ i u⟩
theorem Gv.otherO (h : Gv W g h1 h2 r1 r2 v4) {k : Nat} {cs : Array Value} (hk : Blk W k 46 cs) (hne : k ≠ g) (ho : Only (fun j => j = k) W W') : Gv W' g h1 h2 r1 r2 v4 :=
 h.keep ho (fun j hj => by
  subst hj
  refine ⟨hne, fun c fr e => ?_⟩
  unfold Blk at hk
  rw [hk] at e
  injection e with e
  injection e with _ e _
  exact absurd e (by decide))
theorem Gv.other (h : Gv W g h1 h2 r1 r2 v4) {k : Nat} {cs : Array Value} (hk : Blk W k 46 cs) (hne : k ≠ g) (i : Nat) (u : Value) : Gv (W.setCell ⟨k, i, none⟩ u) g h1 h2 r1 r2 v4 :=
 h.keep (Only.set1 W k i u) (fun j hj => by
  subst hj
  refine ⟨hne, fun c fr e => ?_⟩
  unfold Blk at hk
  rw [hk] at e
  injection e with e
  injection e with _ e _
  exact absurd e (by decide))
end
theorem bx_bts {W : World} {h : Nat} (hb : ∃ fr, W.heap[h]? = some (.cells #[.int .u8 120] 5 fr)) (B : Nat) : Bts W B 5 (bx h) [120] := by
 obtain ⟨fr, e⟩ := hb
 refine ⟨_, 1, rfl, zN _, by unfold maxLen; omega, (fun h => by cases h), fun _ => ⟨h, 0, rfl, lt_of_heap e, .inr ⟨_, fr, e⟩, fun i hi => ?_⟩⟩
 have : i = 0 := by simp at hi; omega
 subst this
 unfold World.cell?
 rw [e]
 rfl
def gq1 (h1 : Nat) (cost : Int) : RQ := ⟨gr1 cost, bx h1, nx, nx, nx, []⟩
def gq2 (h2 : Nat) (at_ err : Int) (hit : Bool) (len cost : Int) (v4 : Value) (xs : List (EvV × Value)) : RQ := ⟨gr2 at_ err hit (xs.map Prod.fst) len cost, nx, bx h2, nx, v4, xs⟩
theorem evs_nil (W : World) (B : Nat) : EvsAt W B nx [] := ⟨⟨none, 0, rfl, zN _, Nat.zero_le _, fun _ => rfl, fun h => by simp at h⟩, by simp⟩
theorem Gv.rs {W : World} {g h1 h2 : Nat} {co at_ err len cost : Int} {hit : Bool} {v4 : Value} {xs : List (EvV × Value)} (h : Gv W g h1 h2 (gr1 co) (gr2 at_ err hit (xs.map Prod.fst) len cost) v4) (hx : EvsAt W W.heap.size v4 xs) :
  RsAt W W.heap.size (.slice (some ⟨g, 0, none⟩) 2 2) [gq1 h1 co, gq2 h2 at_ err hit len cost v4 xs] := by
 have k1 : ka.size ≤ maxLen := by have : ka.size = 1 := rfl; unfold maxLen; omega
 refine ⟨⟨_, 2, rfl, zN _, by unfold maxLen; omega, (fun h => by cases h), fun _ => ⟨g, 0, rfl, ⟨h.row.lt, h.row.lt⟩, fun i p hi j u hu => ?_⟩⟩, fun p hp => ?_⟩
 ·have hj : j < 21 := (Array.getElem?_eq_some_iff.1 hu).1
  rw [Nat.zero_add]
  refine h.row.cell (i * 21 + j) u ?_
  unfold gcs
  match i, hi with
  |0, hi =>
   have : gq1 h1 co = p := by simpa using hi
   subst this
   rw [List.getElem?_toArray, Nat.zero_mul, Nat.zero_add, List.getElem?_append_left (by rw [resc_len]; exact hj), Array.getElem?_toList]
   exact hu
  |1, hi =>
   have : gq2 h2 at_ err hit len cost v4 xs = p := by simpa using hi
   subst this
   rw [List.getElem?_toArray, List.getElem?_append_right (by rw [resc_len]; omega), resc_len, show 1 * 21 + j - 21 = j by omega, Array.getElem?_toList]
   exact hu
  |i + 2, hi => simp at hi
 ·rcases List.mem_cons.1 hp with rfl | hp
  ·exact ⟨⟨bx_bts h.b1 _, Bts.nil _ _ _, Bts.nil _ _ _, evs_nil _ _, rfl⟩, ⟨Int.le_refl _, Int.le_refl _, k1, by unfold maxLen; show 1 ≤ _; omega⟩⟩
  ·obtain rfl := List.mem_singleton.1 hp
   exact ⟨⟨Bts.nil _ _ _, bx_bts h.b2 _, Bts.nil _ _ _, hx, rfl⟩, ⟨by show (0 : Int) ≤ 3; omega, Int.le_refl _, k1, by unfold maxLen; show 0 ≤ _; omega⟩⟩
structure GvO (W : World) (g h1 h2 : Nat) (cs : Array Value) : Prop where
 b1 : ∃ fr, W.heap[h1]? = some (.cells #[.int .u8 120] 5 fr)
 b2 : ∃ fr, W.heap[h2]? = some (.cells #[.int .u8 120] 5 fr)
 row : Blk W g 46 cs
theorem GvO.gv {W : World} {g h1 h2 : Nat} {r1 r2 : ResV} {v4 : Value} (h : GvO W g h1 h2 (gcs h1 h2 r1 r2 v4)) : Gv W g h1 h2 r1 r2 v4 := ⟨h.b1, h.b2, h.row⟩
theorem gcs_lit (h1 h2 : Nat) : #[.int .i64 1, .int .u64 0, .string ⟨#[97]⟩, .slice (some ⟨h1, 0, none⟩) 1 1, .int .u64 0, .int .i64 0, .int .i64 0, .int .i64 0, .int .u64 0, .int .u64 0, .int .i64 0, .bool false, .slice none 0 0, .string ⟨#[]⟩, .slice none 0 0, .int .u64 0, .int .u64 0, .int .i64 0, .slice none 0 0, .int .i64 1, .int .i64 50, .int .i64 3, .int .u64 3, .string ⟨#[97]⟩, .slice none 0 0, .int .u64 0, .int .i64 0, .int .i64 0, .int .i64 0, .int .u64 0, .int .u64 3, .int .i64 0, .bool true, .slice (some ⟨h2, 0, none⟩) 1 1, .string ⟨#[]⟩, .slice none 0 0, .int .u64 0, .int .u64 0, .int .i64 0, .slice none 0 0, .int .i64 1, .int .i64 50] = gcs h1 h2 (gr1 50) (gr2 3 0 true [] 1 50) nx := by
 rfl
def GivRet (w : World) (e : Ending) (w' : World) : Prop :=
 ∃ g h1 h2, e = .returned (.slice (some ⟨g, 0, none⟩) 2 2) ∧ w.heap.size ≤ g ∧ GvO w' g h1 h2 (gcs h1 h2 (gr1 50) (gr2 3 0 true [] 1 50) nx) ∧ Below w.heap.size w w'
set_option maxRecDepth 100000 in
set_option maxHeartbeats 8000000 in
theorem given_any (w : World) : Calls Tryz.prog 12 #[] w (GivRet w) := by
 have kc := fun (w : World) (C : Array Value) (n c : Nat) => Lib.run_convert_bytes_const (P := Tryz.prog) w 37 5 C n c Tryz.underlying37 Tryz.underlying5
 have kc1 : ∀ (w : World) (o : Obj) (C : Array Value) (n c : Nat), (convert 37 37 (.slice (some ⟨w.heap.size + 1, 0, none⟩) n c)).run Tryz.prog ((w.alloc o).alloc (.cells C 5)) = .ok (.slice (some ⟨w.heap.size + 1, 0, none⟩) n c) ((w.alloc o).alloc (.cells C 5 (C.size, C.size + 1))) := fun w o C n c => by
  have := kc (w.alloc o) C n c
  rwa [World.size_alloc] at this
 go_enter Tryz.func12, Tryz.ntmps12
 go_wp2_with fail
 go_ret
 unfold GivRet
 rw [gcs_lit]
 refine ⟨w.heap.size + 1 + 1, w.heap.size, w.heap.size + 1, rfl, by omega, ?_⟩
 generalize gcs w.heap.size (w.heap.size + 1) (gr1 50) (gr2 3 0 true [] 1 50) nx = cs
 refine ⟨⟨⟨(1, 2), ?_⟩, ⟨(1, 2), ?_⟩, Blk.new3 w _ _ 46 _⟩, (((zL _ _).alloc (zN _) _).alloc (by rw [World.size_alloc]; omega) _).alloc (by rw [World.size_alloc, World.size_alloc]; omega) _⟩
 ·exact (Below.heap_alloc _ _ _ (by rw [World.size_alloc, World.size_alloc]; omega)).trans ((Below.heap_alloc _ _ _ (by rw [World.size_alloc]; omega)).trans (heap_alloc_new w _))
 ·have h := heap_alloc_new (w.alloc (.cells #[.int .u8 120] 5 (1, 2))) (.cells #[.int .u8 120] 5 (1, 2))
  rw [World.size_alloc] at h
  exact (Below.heap_alloc _ _ _ (by rw [World.size_alloc, World.size_alloc]; omega)).trans h
end Go.Proofs.YtnabbimompapfaaGreat
namespace Go.Proofs.YtnabbimompapfaaGreat
open Go Go.RowKit
def c27 : CfgV := ⟨2, 100, 0, 0, false⟩
def kev : EvV := ⟨2, ka, [120], 1, 18446744073709551615, 3⟩
def kent : EntV := ⟨ka, [120], 18446744073709551615, 1⟩
set_option maxRecDepth 100000 in
theorem kc_ok : decide (checkP c27 [gr1 50, gr2 3 0 true [] 1 50] = (-1, 0, 0)) = true := by decide +kernel
theorem kc_a : decide (checkP c27 [gr1 51, gr2 3 0 true [] 1 50] = (0, 5, 0)) = true := by decide +kernel
theorem kc_b : decide (checkP c27 [gr1 50, gr2 2 0 true [] 1 50] = (1, 1, 0)) = true := by decide +kernel
theorem kc_d : decide (checkP c27 [gr1 50, gr2 3 0 false [] 1 50] = (1, 6, 0)) = true := by decide +kernel
theorem kc_f : decide (checkP c27 [gr1 50, gr2 3 2 true [] 1 50] = (1, 8, 0)) = true := by decide +kernel
theorem kc_g : decide (checkP c27 [gr1 50, gr2 3 0 true [kev] 0 0] = (1, 4, 0)) = true := by decide +kernel
theorem kl_ok : liveP c27 [gr1 50, gr2 3 0 true [] 1 50] = ([kent], 0) := by decide +kernel
theorem kl_d : liveP c27 [gr1 50, gr2 3 0 false [] 1 50] = ([], 10) := by decide +kernel
theorem kc_0 : checkP ⟨0, 100, 0, 0, false⟩ [] = (0, 0, 240) := by decide +kernel
theorem set_a (h1 h2 : Nat) : (gcs h1 h2 (gr1 50) (gr2 3 0 true [] 1 50) nx).setIfInBounds 20 (.int .i64 51) = gcs h1 h2 (gr1 51) (gr2 3 0 true [] 1 50) nx := by
 unfold gcs; rw [List.setIfInBounds_toArray]; rfl
theorem set_b (h1 h2 : Nat) : (gcs h1 h2 (gr1 50) (gr2 3 0 true [] 1 50) nx).setIfInBounds 30 (.int .u64 2) = gcs h1 h2 (gr1 50) (gr2 2 0 true [] 1 50) nx := by
 unfold gcs; rw [List.setIfInBounds_toArray]; rfl
theorem set_d (h1 h2 : Nat) : (gcs h1 h2 (gr1 50) (gr2 3 0 true [] 1 50) nx).setIfInBounds 32 (.bool false) = gcs h1 h2 (gr1 50) (gr2 3 0 false [] 1 50) nx := by
 unfold gcs; rw [List.setIfInBounds_toArray]; rfl
theorem set_f (h1 h2 : Nat) : (gcs h1 h2 (gr1 50) (gr2 3 0 true [] 1 50) nx).setIfInBounds 31 (.int .i64 2) = gcs h1 h2 (gr1 50) (gr2 3 2 true [] 1 50) nx := by
 unfold gcs; rw [List.setIfInBounds_toArray]; rfl
theorem set_g1 (h1 h2 : Nat) (v4 : Value) : (gcs h1 h2 (gr1 50) (gr2 3 0 true [] 1 50) nx).setIfInBounds 39 v4 = gcs h1 h2 (gr1 50) (gr2 3 0 true [kev] 1 50) v4 := by
 unfold gcs; rw [List.setIfInBounds_toArray]; rfl
theorem set_g2 (h1 h2 : Nat) (v4 : Value) : (gcs h1 h2 (gr1 50) (gr2 3 0 true [kev] 1 50) v4).setIfInBounds 40 (.int .i64 0) = gcs h1 h2 (gr1 50) (gr2 3 0 true [kev] 0 50) v4 := by
 unfold gcs; rw [List.setIfInBounds_toArray]; rfl
theorem set_g3 (h1 h2 : Nat) (v4 : Value) : (gcs h1 h2 (gr1 50) (gr2 3 0 true [kev] 0 50) v4).setIfInBounds 41 (.int .i64 0) = gcs h1 h2 (gr1 50) (gr2 3 0 true [kev] 0 0) v4 := by
 unfold gcs; rw [List.setIfInBounds_toArray]; rfl
theorem gcs_at (h1 h2 : Nat) (r1 r2 : ResV) (v4 : Value) : (gcs h1 h2 r1 r2 v4)[20]? = some (.int .i64 r1.cost) ∧ (gcs h1 h2 r1 r2 v4)[30]? = some (.int .u64 r2.at_) ∧ (gcs h1 h2 r1 r2 v4)[31]? = some (.int .i64 r2.err) ∧ (gcs h1 h2 r1 r2 v4)[32]? = some (.bool r2.hit) ∧ (gcs h1 h2 r1 r2 v4)[39]? = some v4 ∧ (gcs h1 h2 r1 r2 v4)[40]? = some (.int .i64 r2.len) ∧ (gcs h1 h2 r1 r2 v4)[41]? = some (.int .i64 r2.cost) := ⟨rfl, rfl, rfl, rfl, rfl, rfl, rfl⟩
def cc27 : Array Value := #[.int .i64 2, .int .i64 100, .int .i64 0, .int .u64 0, .bool false]
theorem cfg5 {W : World} {g : Nat} (h : Blk W g 24 cc27) : W.cell? ⟨g, 0, none⟩ = some (.int .i64 2) ∧ W.cell? ⟨g, 1, none⟩ = some (.int .i64 100) ∧ W.cell? ⟨g, 2, none⟩ = some (.int .i64 0) ∧ W.cell? ⟨g, 3, none⟩ = some (.int .u64 0) ∧ W.cell? ⟨g, 4, none⟩ = some (.bool false) :=
 ⟨h.cell 0 _ rfl, h.cell 1 _ rfl, h.cell 2 _ rfl, h.cell 3 _ rfl, h.cell 4 _ rfl⟩
theorem gq_ok {h1 h2 : Nat} {co at_ err len cost : Int} {hit : Bool} {v4 : Value} {xs : List (EvV × Value)} (hx : ∀ p ∈ xs, p.1.key.size ≤ maxLen) : ∀ q ∈ [gq1 h1 co, gq2 h2 at_ err hit len cost v4 xs], RqOk q := by
 intro q hq
 rcases List.mem_cons.1 hq with rfl | hq
 ·exact ⟨⟨by show -9223372036854775808 ≤ (0 : Int); omega, by show (0 : Int) ≤ 9223372036854775807; omega⟩, fun p hp => (by cases hp)⟩
 ·obtain rfl := List.mem_singleton.1 hq
  exact ⟨⟨by show -9223372036854775808 ≤ (0 : Int); omega, by show (0 : Int) ≤ 9223372036854775807; omega⟩, hx⟩
theorem no_keys : ∀ p ∈ ([] : List (EvV × Value)), p.1.key.size ≤ maxLen := fun p hp => by cases hp
def gqs (h1 h2 : Nat) (co at_ err : Int) (hit : Bool) : List RQ := [gq1 h1 co, gq2 h2 at_ err hit 1 50 nx []]
theorem gqs_ok {h1 h2 : Nat} {co at_ err : Int} {hit : Bool} : ∀ q ∈ gqs h1 h2 co at_ err hit, RqOk q := gq_ok no_keys
theorem Gv.rs0 {W : World} {g h1 h2 : Nat} {co at_ err : Int} {hit : Bool} (h : Gv W g h1 h2 (gr1 co) (gr2 at_ err hit [] 1 50) nx) : RsAt W W.heap.size (.slice (some ⟨g, 0, none⟩) 2 2) (gqs h1 h2 co at_ err hit) := Gv.rs (xs := []) h (evs_nil _ _)
theorem judge0 {W : World} {g h1 h2 : Nat} {co at_ err want x : Int} {hit : Bool} (h : Gv W g h1 h2 (gr1 co) (gr2 at_ err hit [] 1 50) nx) (hd : decide (checkP c27 [gr1 co, gr2 at_ err hit [] 1 50] = (want, x, 0)) = true) :
  Calls Tryz.prog 13 #[.agg cc27, .slice (some ⟨g, 0, none⟩) 2 2, .int .i64 want, .int .i64 x] W fun e w' => e = .returned (.bool true) ∧ Below W.heap.size W w' := by
 have hj := judged_any W.heap.size c27 _ _ want x W h.rs0 gqs_ok (zN _) (by show 2 ≤ 60000; omega)
 have e : decide (checkP c27 ((gqs h1 h2 co at_ err hit).map RQ.r) = (want, x, 0)) = true := hd
 rw [e] at hj
 exact hj
theorem row_ents {w : World} {gb ge : Nat} {fr : Nat × Nat} (h1 : w.heap[gb]? = some (.cells #[.int .u8 120] 5 fr)) (h2 : Blk w ge 40 #[.string ka, bx gb, .int .u64 18446744073709551615, .int .u64 1]) : EntsAt w w.heap.size (.slice (some ⟨ge, 0, none⟩) 1 1) [(kent, bx gb)] := by
 refine ⟨⟨_, 1, rfl, zN _, by unfold maxLen; omega, (fun h => by cases h), fun _ => ⟨ge, 0, rfl, ⟨h2.lt, h2.lt⟩, fun i p hi j u hu => ?_⟩⟩, fun p hp => ?_⟩
 ·have : i = 0 := by have := (List.getElem?_eq_some_iff.1 hi).1; simp at this; exact this
  subst this
  have : (kent, bx gb) = p := by simpa using hi
  subst this
  rw [Nat.zero_add, Nat.zero_mul, Nat.zero_add]
  exact h2.cell j u hu
 ·obtain rfl := List.mem_singleton.1 hp
  exact bx_bts ⟨fr, h1⟩ _
theorem row_evs {w : World} {gb ge : Nat} {fr : Nat × Nat} (h1 : w.heap[gb]? = some (.cells #[.int .u8 120] 5 fr)) (h2 : Blk w ge 49 #[.int .i64 2, .string ka, bx gb, .int .u64 1, .int .u64 18446744073709551615, .int .u64 3]) : EvsAt w w.heap.size (.slice (some ⟨ge, 0, none⟩) 1 1) [(kev, bx gb)] := by
 refine ⟨⟨_, 1, rfl, zN _, by unfold maxLen; omega, (fun h => by cases h), fun _ => ⟨ge, 0, rfl, ⟨h2.lt, h2.lt⟩, fun i p hi j u hu => ?_⟩⟩, fun p hp => ?_⟩
 ·have : i = 0 := by have := (List.getElem?_eq_some_iff.1 hi).1; simp at this; exact this
  subst this
  have : (kev, bx gb) = p := by simpa using hi
  subst this
  rw [Nat.zero_add, Nat.zero_mul, Nat.zero_add]
  exact h2.cell j u hu
 ·obtain rfl := List.mem_singleton.1 hp
  exact bx_bts ⟨fr, h1⟩ _
theorem evs_up {w : World} {B B' : Nat} {v : Value} {xs : List (EvV × Value)} (h : EvsAt w B v xs) (hB : B ≤ B') : EvsAt w B' v xs := by
 obtain ⟨⟨A, cap, e, h1, h2, h3, h4⟩, h5⟩ := h
 refine ⟨⟨A, cap, e, h1, h2, h3, fun h0 => ?_⟩, fun p hp => (h5 p hp).up2 hB⟩
 obtain ⟨b, off, ha, hb, hc⟩ := h4 h0
 exact ⟨b, off, ha, ⟨hb.1, Nat.lt_of_lt_of_le hb.2 hB⟩, hc⟩
theorem kev_keys {gb : Nat} : ∀ p ∈ [((kev, bx gb) : EvV × Value)], p.1.key.size ≤ maxLen := fun p hp => by
 obtain rfl := List.mem_singleton.1 hp
 have : ka.size = 1 := rfl
 show ka.size ≤ maxLen
 unfold maxLen; omega
theorem judgeG {W : World} {B g h1 h2 gb : Nat} {v4 : Value} (h : Gv W g h1 h2 (gr1 50) (gr2 3 0 true [kev] 0 0) v4) (hx : EvsAt W B v4 [(kev, bx gb)]) (hB : B ≤ W.heap.size) :
  Calls Tryz.prog 13 #[.agg cc27, .slice (some ⟨g, 0, none⟩) 2 2, .int .i64 1, .int .i64 4] W fun e w' => e = .returned (.bool true) ∧ Below W.heap.size W w' := by
 have hj := judged_any W.heap.size c27 _ _ 1 4 W (Gv.rs (xs := [(kev, bx gb)]) h (evs_up hx hB)) (gq_ok kev_keys) (zN _) (by show 2 ≤ 60000; omega)
 have e : decide (checkP c27 ([gq1 h1 50, gq2 h2 3 0 true 0 0 v4 [(kev, bx gb)]].map RQ.r) = (1, 4, 0)) = true := kc_g
 rw [e] at hj
 exact hj
theorem rs_nil (W : World) (B : Nat) : RsAt W B (.slice none 0 0) [] := ⟨⟨none, 0, rfl, zN _, Nat.zero_le _, fun _ => rfl, fun h => by simp at h⟩, by simp⟩
theorem check0 (W : World) : Calls Tryz.prog 7 #[.agg #[.int .i64 0, .int .i64 100, .int .i64 0, .int .u64 0, .bool false], .slice none 0 0] W fun e w' => e = .returned (.tuple #[.int .i64 0, .int .i64 0, .int .i64 240]) ∧ Below W.heap.size W w' := by
 have h := auditCheck_any W.heap.size ⟨0, 100, 0, 0, false⟩ _ [] W (rs_nil _ _) (fun q hq => by cases hq) (zN _) (by show 0 ≤ 60000; omega)
 have e : checkP ⟨0, 100, 0, 0, false⟩ (([] : List RQ).map RQ.r) = (0, 0, 240) := kc_0
 rw [e] at h
 exact h
theorem live0 {W : World} {g h1 h2 : Nat} (h : Gv W g h1 h2 (gr1 50) (gr2 3 0 false [] 1 50) nx) :
  Calls Tryz.prog 9 #[.agg cc27, .slice (some ⟨g, 0, none⟩) 2 2] W fun e w' => (∃ v, e = .returned (.tuple #[v, .int .i64 10])) ∧ Below W.heap.size W w' := by
 have hj := live_any W.heap.size c27 _ _ W h.rs0 gqs_ok (zN _) (by show 2 ≤ 60000; omega)
 have e : liveP c27 ((gqs h1 h2 50 3 0 false).map RQ.r) = ([], 10) := kl_d
 rw [e] at hj
 refine hj.mono ?_
 rintro e w' ⟨v, ps, base, he, _, _, _, _, hb⟩
 exact ⟨⟨v, he⟩, hb⟩
end Go.Proofs.YtnabbimompapfaaGreat
namespace Go.Proofs.YtnabbimompapfaaGreat
open Go Go.RowKit
set_option maxRecDepth 100000 in
set_option maxHeartbeats 4000000 in
theorem kSameE_any (Ba Bb : Nat) (va vb : Value) (ps qs : List (EntV × Value)) (w : World) (ha : EntsAt w Ba va ps) (hb : EntsAt w Bb vb qs) (hn : ps.length ≤ 100000) :
  Calls Tryz.prog 11 #[va, vb] w fun e w' => e = .returned (.bool (decide (ps.map Prod.fst = qs.map Prod.fst))) ∧ Below w.heap.size w w' := by
 obtain ⟨A, ca, rfl, hca, hma⟩ := ha.cap
 obtain ⟨C, cb, rfl, hcb, hmb⟩ := hb.cap
 have HA := zH ha
 have HB := zH hb
 unfold maxLen at hma hmb
 have hpI : (ps.length : Int) ≤ 100000 := by omega
 have hpc : (ps.length : Int) ≤ (ca : Int) := by omega
 have hqI : (qs.length : Int) ≤ 9223372036854775807 := by omega
 have hqc : (qs.length : Int) ≤ (cb : Int) := by omega
 clear ha hb hca hma hcb hmb hn
 by_cases hl : ps.length = qs.length
 ·have hlI : (ps.length : Int) = (qs.length : Int) := by omega
  have hlb : ((ps.length : Int) != (qs.length : Int)) = false := by simp [hlI]
  have HL := zH hl
  obtain ⟨n, hn⟩ : ∃ n, qs.length = n := ⟨_, rfl⟩
  have hpn : ps.length = n := hl.trans hn
  have HPn := zH hpn
  have HQn := zH hn
  rw [hpn] at hpI hpc HA ⊢
  rw [hn] at hqI hqc HB ⊢
  clear hl hlI hlb hn hpn
  go_enter Tryz.func11, Tryz.ntmps11
  go_wp2_with fail
  go_loopw [5] (fun i wr => ∃ m : Nat, m ≤ n ∧ i = .int .i64 m ∧ (∀ (j : Nat) (p q : EntV × Value), j < m → ps[j]? = some p → qs[j]? = some q → p.1 = q.1) ∧ Below w.heap.size w wr) (fun i _ => n - (intOf i).toNat)
  case atStart => exact ⟨0, by omega, rfl, fun j p q hj => by omega, zL _ _⟩
  case round =>
   obtain ⟨m, hm, rfl, hj, hbl⟩ := hrel
   have HJ := zH hj
   have HBl := zH hbl
   clear hj hbl
   by_cases hml : m < n
   ·obtain ⟨⟨x, V⟩, hx⟩ : ∃ p, ps[m]? = some p := ⟨_, List.getElem?_eq_getElem (by rw [HPn.out]; exact hml)⟩
    obtain ⟨⟨y, U⟩, hy⟩ : ∃ p, qs[m]? = some p := ⟨_, List.getElem?_eq_getElem (by rw [HQn.out]; exact hml)⟩
    obtain ⟨qa, oa, hqa, -⟩ := HA.out.at_ hx
    subst hqa
    obtain ⟨qb, ob, hqb, -⟩ := HB.out.at_ hy
    subst hqb
    obtain ⟨XA, xc, hV⟩ := (HA.out.vals _ (List.mem_of_getElem? hx)).form
    dsimp only at hV
    subst hV
    obtain ⟨YA, yc, hU⟩ := (HB.out.vals _ (List.mem_of_getElem? hy)).form
    dsimp only at hU
    subst hU
    have HX := zH hx
    have HY := zH hy
    have hmI : (m : Int) < (n : Int) := by omega
    have hm0 : (0 : Int) ≤ (m : Int) := by omega
    clear hx hy
    go_upto_region 6 with fail
    refine wp_region_noPanic ?_
    refine wp_region_held_drew (S := fun W => EntsAt W Ba (.slice (some ⟨qa, oa, none⟩) n ca) ps ∧ EntsAt W Bb (.slice (some ⟨qb, ob, none⟩) n cb) qs) (by kernel_rfl) ⟨(HA.out.below HBl.out).below (zL _ _).drew, (HB.out.below HBl.out).below (zL _ _).drew⟩ (fun hHeld => ?_)
    have HB3 : Hid (Below w.heap.size w wr.drew) := zH HBl.out.drew
    generalize wr.drew = W3 at hHeld HB3 ⊢
    have H3 := zH hHeld
    refine Pl.go [0, 1, 2, 3, 4, 5, 6, 7] ?_
    iterate 8
     refine tkl (v := ?_) ?_ ?_
     rotate_left 1
     ·intro W hSw
      obtain ⟨_, _, e1, y0, y1, y2, y3⟩ := hSw.1.at_ HX.out; cases e1; obtain ⟨_, _, e2, z0, z1, z2, z3⟩ := hSw.2.at_ HY.out; cases e2; dsimp only at y0 y1 y2 y3 z0 z1 z2 z3
      clear hSw
      go_simp
      try with_reducible rfl
     try dsimp only [zS, zB, zC]
    refine Pl.stop ?_
    refine wpAnyH_ready (rs := [8]) (by kernel_rfl) (by simp) ?_
    refine AllReadyH.cons (o := ⟨_, _, _, _, _, _⟩) rfl (fun F hF => ?_) AllReadyH.nil
    go_simp
    refine (refEqual_any Ba Bb x y _ _ W3 (H3.out.1.vals (x, _) (List.mem_of_getElem? HX.out)) (H3.out.2.vals (y, _) (List.mem_of_getElem? HY.out))).mono ?_
    rintro e2 w5 ⟨rfl, hb5⟩
    have H5 := zH (And.intro (H3.out.1.below hb5) (H3.out.2.below hb5))
    have HB5 := zH (HB3.out.trans (hb5.mono HB3.out.size))
    clear hb5 hHeld
    by_cases hxy : x = y
    ·rw [decide_eq_true hxy]
     have HXY := zH hxy
     clear hxy
     go_wp2_with fail
     refine hF.out _ _ H5.out (fun hHeld => ?_)
     clear hF F
     try simp only [Act.put, zA, zB, zC]
     refine tk 9 (v := ?_) ?_ ?_
     rotate_left 1
     ·intro W hSw
      skip
      clear hSw
      go_simp
      try with_reducible rfl
     try dsimp only [zS, zB, zC]
     refine wpAnyH_done (by kernel_rfl) ?_ _
     refine NoPanic.normal ?_
     go_wp2_with fail
     go_roundw
     case rel => exact ⟨m + 1, by omega, by go_num, fun j p q hj hp hq => by
       rcases (by omega : j < m ∨ j = m) with h1 | h1
       ·exact HJ.out j p q h1 hp hq
       ·subst h1
        rw [HX.out] at hp
        rw [HY.out] at hq
        injection hp with hp
        injection hq with hq
        rw [← hp, ← hq]; exact HXY.out, HB5.out⟩
     case measure => simp [intOf]; omega
    ·have HS : Hid (decide (ps.map Prod.fst = qs.map Prod.fst) = false) := zH (decide_eq_false (fun h => by
      have h2 := congrArg (fun l => l[m]?) h
      simp only [List.getElem?_map, HX.out, HY.out, Option.map_some, Option.some.injEq] at h2
      exact hxy h2))
     rw [decide_eq_false hxy]
     clear hxy
     go_wp2_with fail
     refine hF.out _ _ H5.out (fun hHeld => ?_)
     clear hF F
     try simp only [Act.put, zA, zB, zC]
     refine tk 9 (v := ?_) ?_ ?_
     rotate_left 1
     ·intro W hSw
      skip
      clear hSw
      go_simp
      try with_reducible rfl
     try dsimp only [zS, zB, zC]
     refine wpAnyH_done (by kernel_rfl) ?_ _
     refine NoPanic.normal ?_
     go_wp2_with fail
     go_ret
     first | exact ⟨by rw [HS.out]; rfl, HB5.out⟩ | exact ⟨rfl, HB5.out⟩
   ·obtain rfl : m = n := by omega
    have HS : Hid (decide (ps.map Prod.fst = qs.map Prod.fst) = true) := zH (decide_eq_true (by
     refine List.ext_getElem? fun j => ?_
     rw [List.getElem?_map, List.getElem?_map]
     rcases Nat.lt_or_ge j m with h | h
     ·obtain ⟨p1, h1⟩ : ∃ p1, ps[j]? = some p1 := ⟨_, List.getElem?_eq_getElem (by rw [HPn.out]; exact h)⟩
      obtain ⟨q1, h2⟩ : ∃ q1, qs[j]? = some q1 := ⟨_, List.getElem?_eq_getElem (by rw [HQn.out]; exact h)⟩
      rw [h1, h2, Option.map_some, Option.map_some, HJ.out j _ _ h h1 h2]
     ·rw [List.getElem?_eq_none (by rw [HPn.out]; exact h), List.getElem?_eq_none (by rw [HQn.out]; exact h)]))
    go_wp2_with fail
    go_ret
    first | exact ⟨by rw [HS.out]; rfl, HBl.out⟩ | exact ⟨rfl, HBl.out⟩
 ·have hlI : ¬ (ps.length : Int) = (qs.length : Int) := by omega
  have hlb : ((ps.length : Int) != (qs.length : Int)) = true := by simp [hlI]
  have HS : Hid (decide (ps.map Prod.fst = qs.map Prod.fst) = false) := zH (decide_eq_false (fun h => hl (by
   have := congrArg List.length h
   simpa using this)))
  go_enter Tryz.func11, Tryz.ntmps11
  go_wp2_with fail
  go_ret
  first | exact ⟨by rw [HS.out]; rfl, zL _ _⟩ | exact ⟨rfl, zL _ _⟩
end Go.Proofs.YtnabbimompapfaaGreat
namespace Go.Proofs.YtnabbimompapfaaGreat
open Go Go.RowKit
def bx' (h : Nat) : Value := .slice (some ⟨h, 0, none⟩) 1 1
theorem below_more {w W W2 : World} {B : Nat} (h : Below B w W) (k : Below W.heap.size W W2) (hB : B ≤ w.heap.size) : Below B w W2 := h.trans (k.mono (Nat.le_trans hB h.size))
set_option maxRecDepth 100000 in
set_option maxHeartbeats 4000000 in
theorem known_any (w : World) : Calls Tryz.prog 6 #[] w fun e w' => e = .returned (.bool true) ∧ Below w.heap.size w w' := by
 have HKc := zH (fun (w : World) (C : Array Value) (n c : Nat) => Lib.run_convert_bytes_const (P := Tryz.prog) w 37 5 C n c Tryz.underlying37 Tryz.underlying5)
 go_enter Tryz.func6, Tryz.ntmps6
 go_upto_region 2 with fail
 have HC0 : Hid (Blk (w.alloc (.cells cc27 24)) w.heap.size 24 cc27) := zH (Blk.new w _ _)
 have HB0 : Hid (Below w.heap.size w (w.alloc (.cells cc27 24))) := zH ((zL _ _).alloc (zN _) _)
 have hcc : cc27 = #[.int .i64 2, .int .i64 100, .int .i64 0, .int .u64 0, .bool false] := rfl
 rw [← hcc]
 clear hcc
 generalize World.alloc _ _ = W0 at HC0 HB0 ⊢
 generalize hgc : w.heap.size = gc at HC0 HB0 ⊢
 have HGe := zH hgc
 have HGl : Hid (gc ≤ w.heap.size) := zH (Nat.le_of_eq hgc.symm)
 clear hgc
 refine wp_region_noPanic ?_
 refine wp_region_held_drew (S := fun W => Blk W gc 24 cc27) (by kernel_rfl) HC0.out.drew (fun hHeld => ?_)
 have HB1 := zH HB0.out.drew
 generalize W0.drew = W1 at hHeld HB1 ⊢
 have H1 := zH hHeld
 clear HC0 HB0
 refine tk 0 (v := ?_) ?_ ?_
 rotate_left 1
 ·intro W hSw
  obtain ⟨x0, x1, x2, x3, x4⟩ := cfg5 hSw
  clear hSw
  go_simp
  try with_reducible rfl
 try dsimp only [zS, zB, zC]
 refine wpAnyH_ready (rs := [1]) (by kernel_rfl) (by simp) ?_
 refine AllReadyH.cons (o := ⟨_, _, _, _, _, _⟩) rfl (fun F hF => ?_) AllReadyH.nil
 go_simp
 refine (given_any W1).mono ?_
 rintro e2 w2 ⟨g, h1, h2, rfl, hg, hgv, hb2⟩
 have HG2 := zH hgv.gv
 have HC2 := zH (H1.out.below hb2)
 have HB2 := zH (below_more HB1.out hb2 HGl.out)
 clear hg hgv hb2 hHeld H1 HB1
 go_wp2_with fail
 refine hF.out _ _ HC2.out (fun hHeld => ?_)
 clear hF F
 try simp only [Act.put, zA, zB, zC]
 refine wpAnyH_ready (rs := [2]) (by kernel_rfl) (by simp) ?_
 refine AllReadyH.cons (o := ⟨_, _, _, _, _, _⟩) rfl (fun F hF => ?_) AllReadyH.nil
 go_simp
 refine (live_any w2.heap.size c27 _ _ w2 HG2.out.rs0 gqs_ok (zN _) (by show 2 ≤ 60000; omega)).mono ?_
 rintro e3 w3 hl3
 have hlv : liveP c27 ((gqs h1 h2 50 3 0 true).map RQ.r) = ([kent], 0) := kl_ok
 rw [hlv] at hl3
 obtain ⟨v, ps, base, rfl, hbase, hown, hvals, hmap, hb3⟩ := hl3
 obtain ⟨VA, vc, rfl, _, _⟩ := own_form hown
 have HE3 : Hid (EntsAt w3 w3.heap.size (.slice VA ps.length vc) ps) := zH (EntsAt.of_own hown (zN _) (fun p hp => (hvals p hp).1))
 have HMp : Hid (ps.map Prod.fst = [kent]) := zH hmap
 have hpl : ps.length = 1 := by have := congrArg List.length hmap; simpa using this
 have HC3 := zH (HC2.out.below hb3)
 have HB3 := zH (below_more HB2.out hb3 HGl.out)
 rw [hpl] at HE3 ⊢
 have HPl := zH hpl
 clear hlv hbase hown hvals hmap hb3 hHeld HG2 HC2 HB2 hpl
 go_wp2_with fail
 refine hF.out _ _ HC3.out (fun hHeld => ?_)
 clear hF F
 try simp only [Act.put, zA, zB, zC]
 refine Pl.go [3, 4, 5, 6, 7] ?_
 iterate 5
  refine tkl (v := ?_) ?_ ?_
  rotate_left 1
  ·intro W hSw
   obtain ⟨x0, x1, x2, x3, x4⟩ := cfg5 hSw
   clear hSw
   go_simp
   try with_reducible rfl
  try dsimp only [zS, zB, zC]
 refine Pl.stop ?_
 refine wpAnyH_done (by kernel_rfl) ?_ _
 refine NoPanic.normal ?_
 clear hHeld
 go_upto_region 3 with fail
 refine wp_region_noPanic ?_
 refine wp_region_held_drew (S := fun W => Blk W gc 24 cc27 ∧ EntsAt W w3.heap.size (.slice VA 1 vc) ps) (by kernel_rfl) ⟨HC3.out.drew, HE3.out.below (zL _ _).drew⟩ (fun hHeld => ?_)
 have HB4 := zH HB3.out.drew
 generalize w3.drew = w4 at hHeld HB4 ⊢
 have H4 := zH hHeld
 clear HB3 HC3
 refine tk 0 (v := ?_) ?_ ?_
 rotate_left 1
 ·intro W hSw
  obtain ⟨x0, x1, x2, x3, x4⟩ := cfg5 hSw.1
  clear hSw
  go_simp
  try with_reducible rfl
 try dsimp only [zS, zB, zC]
 refine wpAnyH_ready (rs := [1]) (by kernel_rfl) (by simp) ?_
 refine AllReadyH.cons (o := ⟨_, _, _, _, _, _⟩) rfl (fun F hF => ?_) AllReadyH.nil
 go_simp
 refine (given_any w4).mono ?_
 rintro e2 w5 ⟨g5, h5, k5, rfl, hg, hgv, hb⟩
 have HG5 := zH hgv.gv
 have H5 := zH (And.intro (H4.out.1.below hb) (H4.out.2.below hb))
 have HB5 := zH (below_more HB4.out hb HGl.out)
 clear hg hgv hb hHeld H4 HB4
 go_wp2_with fail
 refine hF.out _ _ H5.out (fun hHeld => ?_)
 clear hF F
 try simp only [Act.put, zA, zB, zC]
 refine wpAnyH_ready (rs := [2]) (by kernel_rfl) (by simp) ?_
 refine AllReadyH.cons (o := ⟨_, _, _, _, _, _⟩) rfl (fun F hF => ?_) AllReadyH.nil
 go_simp
 refine (judge0 HG5.out kc_ok).mono ?_
 rintro e3 w6 ⟨rfl, hb⟩
 have H6 := zH (And.intro (H5.out.1.below hb) (H5.out.2.below hb))
 have HB6 := zH (below_more HB5.out hb HGl.out)
 clear hb hHeld H5 HB5 HG5
 go_wp2_with fail
 refine hF.out _ _ H6.out (fun hHeld => ?_)
 clear hF F
 try simp only [Act.put, zA, zB, zC]
 refine Pl.go [3, 4, 5, 6, 7, 8, 9] ?_
 iterate 7
  refine tkl (v := ?_) ?_ ?_
  rotate_left 1
  ·intro W hSw
   obtain ⟨x0, x1, x2, x3, x4⟩ := cfg5 hSw.1
   clear hSw
   go_simp
   try with_reducible rfl
  try dsimp only [zS, zB, zC]
 refine Pl.stop ?_
 refine wpAnyH_ready (rs := [10]) (by kernel_rfl) (by simp) ?_
 refine AllReadyH.cons (o := ⟨_, _, _, _, _, _⟩) rfl (fun F hF => ?_) AllReadyH.nil
 go_simp
 have hb : Below w6.heap.size w6 (w6.alloc (.cells #[.int .u8 120] 5)) := (zL _ _).alloc (zN _) _
 refine hF.out _ _ ⟨H6.out.1.below hb, H6.out.2.below hb⟩ (fun hHeld => ?_)
 clear hF F hHeld hb
 try simp only [Act.put, zA, zB, zC]
 have kc := HKc.out w6
 refine wpAnyH_ready (rs := [11]) (by kernel_rfl) (by simp) ?_
 refine AllReadyH.cons (o := ⟨_, _, _, _, _, _⟩) rfl (fun F hF => ?_) AllReadyH.nil
 go_simp
 clear kc
 have hb : Below w6.heap.size w6 (w6.alloc (.cells #[.int .u8 120] 5 (1, 2))) := (zL _ _).alloc (zN _) _
 have HV7 := zH (heap_alloc_new w6 (.cells #[.int .u8 120] 5 (1, 2)))
 have H7 := zH (And.intro (H6.out.1.below hb) (H6.out.2.below hb))
 have HB7 := zH (below_more HB6.out hb HGl.out)
 generalize World.alloc _ _ = w7 at HV7 H7 HB7 ⊢
 generalize w6.heap.size = gv at HV7 ⊢
 clear hb H6 HB6
 refine hF.out _ _ H7.out (fun hHeld => ?_)
 clear hF F
 try simp only [Act.put, zA, zB, zC]
 refine tk 12 (v := ?_) ?_ ?_
 rotate_left 1
 ·intro W hSw
  obtain ⟨x0, x1, x2, x3, x4⟩ := cfg5 hSw.1
  clear hSw
  go_simp
  try with_reducible rfl
 try dsimp only [zS, zB, zC]
 refine wpAnyH_ready (rs := [13]) (by kernel_rfl) (by simp) ?_
 refine AllReadyH.cons (o := ⟨_, _, _, _, _, _⟩) rfl (fun F hF => ?_) AllReadyH.nil
 go_simp
 have hb : Below w7.heap.size w7 (w7.alloc (.cells #[.string ka, bx gv, .int .u64 18446744073709551615, .int .u64 1] 40)) := (zL _ _).alloc (zN _) _
 have H8 := zH (And.intro (H7.out.1.below hb) (H7.out.2.below hb))
 have HB8 := zH (below_more HB7.out hb HGl.out)
 have HE8 := zH (row_ents ((hb.block gv (lt_of_heap HV7.out)).trans HV7.out) (Blk.new w7 _ _))
 have hcc : #[.string ka, bx gv, .int .u64 18446744073709551615, .int .u64 1] = #[.string ⟨#[97]⟩, .slice (some ⟨gv, 0, none⟩) 1 1, .int .u64 18446744073709551615, .int .u64 1] := rfl
 rw [← hcc]
 generalize World.alloc _ _ = w8 at H8 HB8 HE8 ⊢
 generalize w7.heap.size = ge at HE8 ⊢
 clear hcc hb H7 HB7 HV7
 refine hF.out _ _ H8.out (fun hHeld => ?_)
 clear hF F
 try simp only [Act.put, zA, zB, zC]
 refine wpAnyH_ready (rs := [14]) (by kernel_rfl) (by simp) ?_
 refine AllReadyH.cons (o := ⟨_, _, _, _, _, _⟩) rfl (fun F hF => ?_) AllReadyH.nil
 go_simp
 refine (kSameE_any _ _ _ _ ps [(kent, bx gv)] w8 H8.out.2 HE8.out (by rw [HPl.out]; omega)).mono ?_
 rintro e9 w9 ⟨rfl, hb⟩
 rw [HMp.out]
 have H9 := zH (H8.out.1.below hb)
 have HB9 := zH (below_more HB8.out hb HGl.out)
 have H9b := zH (And.intro H9.out (H8.out.2.below hb))
 clear hb H8 HB8 HE8
 go_wp2_with fail
 refine hF.out _ _ H9b.out (fun hHeld => ?_)
 clear hF F
 try simp only [Act.put, zA, zB, zC]
 refine Pl.go [15, 16] ?_
 iterate 2
  refine tkl (v := ?_) ?_ ?_
  rotate_left 1
  ·intro W hSw
   obtain ⟨x0, x1, x2, x3, x4⟩ := cfg5 hSw.1
   clear hSw
   go_simp
   try with_reducible rfl
  try dsimp only [zS, zB, zC]
 refine Pl.stop ?_
 refine wpAnyH_done (by kernel_rfl) ?_ _
 refine NoPanic.normal ?_
 clear hHeld H9b HMp HPl
 go_wp2_with fail
 refine (given_any w9).mono ?_
 rintro e2 w10 ⟨ga, a1, a2, rfl, hg, hgv, hb⟩
 have H10 := zH (H9.out.below hb)
 have HB10 := zH (below_more HB9.out hb HGl.out)
 have hca : gc ≤ ga := by have := H9.out.lt; omega
 have Ga := zH hgv.gv
 clear hg hgv hb H9 HB9
 go_wp2_with fail
 refine (given_any w10).mono ?_
 rintro e2 w11 ⟨gb, b1, b2, rfl, hg, hgv, hb⟩
 have H11 := zH (H10.out.below hb)
 have HB11 := zH (below_more HB10.out hb HGl.out)
 have hlt := Ga.out.row.lt
 have hab : ga < gb := by omega
 clear hlt
 replace Ga := zH (Ga.out.below hb)
 have hcb : gc ≤ gb := by have := H10.out.lt; omega
 have Gb := zH hgv.gv
 clear hg hgv hb H10 HB10
 go_wp2_with fail
 refine (given_any w11).mono ?_
 rintro e2 w12 ⟨gd, d1, d2, rfl, hg, hgv, hb⟩
 have H12 := zH (H11.out.below hb)
 have HB12 := zH (below_more HB11.out hb HGl.out)
 have hlt := Ga.out.row.lt
 have had : ga < gd := by omega
 clear hlt
 replace Ga := zH (Ga.out.below hb)
 have hlt := Gb.out.row.lt
 have hbd : gb < gd := by omega
 clear hlt
 replace Gb := zH (Gb.out.below hb)
 have hcd : gc ≤ gd := by have := H11.out.lt; omega
 have Gd := zH hgv.gv
 clear hg hgv hb H11 HB11
 go_wp2_with fail
 refine (given_any w12).mono ?_
 rintro e2 w13 ⟨gf, f1, f2, rfl, hg, hgv, hb⟩
 have H13 := zH (H12.out.below hb)
 have HB13 := zH (below_more HB12.out hb HGl.out)
 have hlt := Ga.out.row.lt
 have haf : ga < gf := by omega
 clear hlt
 replace Ga := zH (Ga.out.below hb)
 have hlt := Gb.out.row.lt
 have hbf : gb < gf := by omega
 clear hlt
 replace Gb := zH (Gb.out.below hb)
 have hlt := Gd.out.row.lt
 have hdf : gd < gf := by omega
 clear hlt
 replace Gd := zH (Gd.out.below hb)
 have hcf : gc ≤ gf := by have := H12.out.lt; omega
 have Gf := zH hgv.gv
 clear hg hgv hb H12 HB12
 go_wp2_with fail
 refine (given_any w13).mono ?_
 rintro e2 w14 ⟨gg, g1, g2, rfl, hg, hgv, hb⟩
 have H14 := zH (H13.out.below hb)
 have HB14 := zH (below_more HB13.out hb HGl.out)
 have hlt := Ga.out.row.lt
 have hag : ga < gg := by omega
 clear hlt
 replace Ga := zH (Ga.out.below hb)
 have hlt := Gb.out.row.lt
 have hbg : gb < gg := by omega
 clear hlt
 replace Gb := zH (Gb.out.below hb)
 have hlt := Gd.out.row.lt
 have hdg : gd < gg := by omega
 clear hlt
 replace Gd := zH (Gd.out.below hb)
 have hlt := Gf.out.row.lt
 have hfg : gf < gg := by omega
 clear hlt
 replace Gf := zH (Gf.out.below hb)
 have hcg : gc ≤ gg := by have := H13.out.lt; omega
 have Gg := zH hgv.gv
 clear hg hgv hb H13 HB13
 go_upto_region 6 with fail
 obtain ⟨ca, -⟩ := gcs_at a1 a2 (gr1 50) (gr2 3 0 true [] 1 50) nx
 obtain ⟨-, cb, -⟩ := gcs_at b1 b2 (gr1 50) (gr2 3 0 true [] 1 50) nx
 obtain ⟨-, -, -, cd, -⟩ := gcs_at d1 d2 (gr1 50) (gr2 3 0 true [] 1 50) nx
 obtain ⟨-, -, cf, -⟩ := gcs_at f1 f2 (gr1 50) (gr2 3 0 true [] 1 50) nx
 have ca := Ga.out.row.cell 20 _ ca
 have cb := Gb.out.row.cell 30 _ cb
 have cd := Gd.out.row.cell 32 _ cd
 have cf := Gf.out.row.cell 31 _ cf
 have fa := Ga.out.row.frozen 20
 have fb := Gb.out.row.frozen 30
 have fd := Gd.out.row.frozen 32
 have ff := Gf.out.row.frozen 31
 go_upto_region 7 with fail
 clear ca cb cd cf fa fb fd ff
 have Kb := Gb.out.other Ga.out.row (by omega) 20 (.int .i64 51)
 have Kd := Gd.out.other Ga.out.row (by omega) 20 (.int .i64 51)
 have Kf := Gf.out.other Ga.out.row (by omega) 20 (.int .i64 51)
 have Kg := Gg.out.other Ga.out.row (by omega) 20 (.int .i64 51)
 have Ka := Ga.out.set_ 20 (.int .i64 51) (set_a a1 a2)
 have KH := H14.out.only (Only.set1 w14 ga 20 (.int .i64 51)) (H14.out.ne_ Ga.out.row (by decide))
 have KB := HB14.out.setCell (p := ⟨ga, 20, none⟩) (by dsimp only; omega) (.int .i64 51)
 generalize w14.setCell ⟨ga, 20, none⟩ (.int .i64 51) = u0 at Ka Kb Kd Kf Kg KH KB ⊢
 clear Ga Gb Gd Gf Gg H14 HB14
 have Ga := zH Ka
 have Gb := zH Kb
 have Gd := zH Kd
 have Gf := zH Kf
 have Gg := zH Kg
 have H15 := zH KH
 have HB15 := zH KB
 clear Ka Kb Kd Kf Kg KH KB
 have Ka := Ga.out.other Gb.out.row (by omega) 30 (.int .u64 2)
 have Kd := Gd.out.other Gb.out.row (by omega) 30 (.int .u64 2)
 have Kf := Gf.out.other Gb.out.row (by omega) 30 (.int .u64 2)
 have Kg := Gg.out.other Gb.out.row (by omega) 30 (.int .u64 2)
 have Kb := Gb.out.set_ 30 (.int .u64 2) (set_b b1 b2)
 have KH := H15.out.only (Only.set1 u0 gb 30 (.int .u64 2)) (H15.out.ne_ Gb.out.row (by decide))
 have KB := HB15.out.setCell (p := ⟨gb, 30, none⟩) (by dsimp only; omega) (.int .u64 2)
 generalize u0.setCell ⟨gb, 30, none⟩ (.int .u64 2) = u1 at Ka Kb Kd Kf Kg KH KB ⊢
 clear Ga Gb Gd Gf Gg H15 HB15
 have Ga := zH Ka
 have Gb := zH Kb
 have Gd := zH Kd
 have Gf := zH Kf
 have Gg := zH Kg
 have H16 := zH KH
 have HB16 := zH KB
 clear Ka Kb Kd Kf Kg KH KB
 have Ka := Ga.out.other Gd.out.row (by omega) 32 (.bool false)
 have Kb := Gb.out.other Gd.out.row (by omega) 32 (.bool false)
 have Kf := Gf.out.other Gd.out.row (by omega) 32 (.bool false)
 have Kg := Gg.out.other Gd.out.row (by omega) 32 (.bool false)
 have Kd := Gd.out.set_ 32 (.bool false) (set_d d1 d2)
 have KH := H16.out.only (Only.set1 u1 gd 32 (.bool false)) (H16.out.ne_ Gd.out.row (by decide))
 have KB := HB16.out.setCell (p := ⟨gd, 32, none⟩) (by dsimp only; omega) (.bool false)
 generalize u1.setCell ⟨gd, 32, none⟩ (.bool false) = u2 at Ka Kb Kd Kf Kg KH KB ⊢
 clear Ga Gb Gd Gf Gg H16 HB16
 have Ga := zH Ka
 have Gb := zH Kb
 have Gd := zH Kd
 have Gf := zH Kf
 have Gg := zH Kg
 have H17 := zH KH
 have HB17 := zH KB
 clear Ka Kb Kd Kf Kg KH KB
 have Ka := Ga.out.other Gf.out.row (by omega) 31 (.int .i64 2)
 have Kb := Gb.out.other Gf.out.row (by omega) 31 (.int .i64 2)
 have Kd := Gd.out.other Gf.out.row (by omega) 31 (.int .i64 2)
 have Kg := Gg.out.other Gf.out.row (by omega) 31 (.int .i64 2)
 have Kf := Gf.out.set_ 31 (.int .i64 2) (set_f f1 f2)
 have KH := H17.out.only (Only.set1 u2 gf 31 (.int .i64 2)) (H17.out.ne_ Gf.out.row (by decide))
 have KB := HB17.out.setCell (p := ⟨gf, 31, none⟩) (by dsimp only; omega) (.int .i64 2)
 generalize u2.setCell ⟨gf, 31, none⟩ (.int .i64 2) = u3 at Ka Kb Kd Kf Kg KH KB ⊢
 clear Ga Gb Gd Gf Gg H17 HB17
 have Ga := zH Ka
 have Gb := zH Kb
 have Gd := zH Kd
 have Gf := zH Kf
 have Gg := zH Kg
 have H18 := zH KH
 have HB18 := zH KB
 clear Ka Kb Kd Kf Kg KH KB
 obtain ⟨-, -, -, -, c39, c40, c41⟩ := gcs_at g1 g2 (gr1 50) (gr2 3 0 true [] 1 50) nx
 have c39 := Gg.out.row.cell 39 _ c39
 have c40 := Gg.out.row.cell 40 _ c40
 have c41 := Gg.out.row.cell 41 _ c41
 have f39 := Gg.out.row.frozen 39
 have f40 := Gg.out.row.frozen 40
 have f41 := Gg.out.row.frozen 41
 have hgl := Gg.out.row.lt
 have kc := HKc.out u3
 go_upto_region 8 with fail
 clear c39 c40 c41 f39 f40 f41 hgl kc
 obtain ⟨n3, hn3⟩ : ∃ n, u3.heap.size = n := ⟨_, rfl⟩
 rw [hn3]
 have ho4 : Only (fun k => k = gg) u3 (((u3.setCell ⟨gg, 39, none⟩ (bx' (n3 + 1))).setCell ⟨gg, 40, none⟩ (.int .i64 0)).setCell ⟨gg, 41, none⟩ (.int .i64 0)) :=
  Only.setCell (S := fun k => k = gg) (Only.setCell (S := fun k => k = gg) (Only.set1 u3 gg 39 _) (p := ⟨gg, 40, none⟩) (.inl rfl) _) (p := ⟨gg, 41, none⟩) (.inl rfl) _
 have hsz : (((u3.setCell ⟨gg, 39, none⟩ (bx' (n3 + 1))).setCell ⟨gg, 40, none⟩ (.int .i64 0)).setCell ⟨gg, 41, none⟩ (.int .i64 0)).heap.size = n3 := by simpa [World.setCell] using hn3
 have Kg := ((Gg.out.set_ 39 (bx' (n3 + 1)) (set_g1 g1 g2 _)).set_ 40 _ (set_g2 g1 g2 _)).set_ 41 _ (set_g3 g1 g2 _)
 have Ka := Ga.out.otherO Gg.out.row (by omega) ho4
 have Kb := Gb.out.otherO Gg.out.row (by omega) ho4
 have Kd := Gd.out.otherO Gg.out.row (by omega) ho4
 have Kf := Gf.out.otherO Gg.out.row (by omega) ho4
 have KH := H18.out.only ho4 (H18.out.ne_ Gg.out.row (by decide))
 have KB := ((HB18.out.setCell (p := ⟨gg, 39, none⟩) (by dsimp only; omega) (bx' (n3 + 1))).setCell (p := ⟨gg, 40, none⟩) (by dsimp only; omega) (.int .i64 0)).setCell (p := ⟨gg, 41, none⟩) (by dsimp only; omega) (.int .i64 0)
 unfold bx' at ho4 hsz Kg Ka Kb Kd Kf KH KB
 generalize ((u3.setCell ⟨gg, 39, none⟩ (.slice (some ⟨n3 + 1, 0, none⟩) 1 1)).setCell ⟨gg, 40, none⟩ (.int .i64 0)).setCell ⟨gg, 41, none⟩ (.int .i64 0) = u4 at hsz Kg Ka Kb Kd Kf KH KB ⊢
 clear ho4 Ga Gb Gd Gf Gg H18 HB18 hn3
 have hb4 : Below u4.heap.size u4 ((u4.alloc (.cells #[.int .u8 120] 5 (1, 2))).alloc (.cells #[.int .i64 2, .string ka, .slice (some ⟨n3, 0, none⟩) 1 1, .int .u64 1, .int .u64 18446744073709551615, .int .u64 3] 49)) := below_two _ _ _
 have hv4 : ((u4.alloc (.cells #[.int .u8 120] 5 (1, 2))).alloc (.cells #[.int .i64 2, .string ka, .slice (some ⟨n3, 0, none⟩) 1 1, .int .u64 1, .int .u64 18446744073709551615, .int .u64 3] 49)).heap[n3]? = some (.cells #[.int .u8 120] 5 (1, 2)) := by
  have h := heap_alloc_new u4 (.cells #[.int .u8 120] 5 (1, 2))
  rw [hsz] at h
  exact (Below.heap_alloc _ _ _ (by rw [World.size_alloc]; omega)).trans h
 have he4 := Blk.new2 u4 (.cells #[.int .u8 120] 5 (1, 2)) 49 #[.int .i64 2, .string ka, .slice (some ⟨n3, 0, none⟩) 1 1, .int .u64 1, .int .u64 18446744073709551615, .int .u64 3]
 rw [hsz] at he4
 have hka : (⟨#[97]⟩ : ByteArray) = ka := rfl
 rw [hka]
 clear hka
 generalize (u4.alloc (.cells #[.int .u8 120] 5 (1, 2))).alloc (.cells #[.int .i64 2, .string ka, .slice (some ⟨n3, 0, none⟩) 1 1, .int .u64 1, .int .u64 18446744073709551615, .int .u64 3] 49) = u5 at hb4 hv4 he4 ⊢
 have GX := zH (row_evs hv4 he4)
 have Ga := zH (Ka.below hb4)
 have Gb := zH (Kb.below hb4)
 have Gd := zH (Kd.below hb4)
 have Gf := zH (Kf.below hb4)
 have Gg := zH (Kg.below hb4)
 have H20 := zH (KH.below hb4)
 have HB20 := zH (below_more KB hb4 HGl.out)
 clear Ka Kb Kd Kf Kg KH KB hb4 hv4 he4 hsz
 obtain ⟨x0, x1, x2, x3, x4⟩ := cfg5 H20.out
 go_wp2_with fail
 have HX5 := zH (zN u5.heap.size)
 refine (judge0 Ga.out kc_a).mono ?_
 rintro e2 w20 ⟨rfl, hb⟩
 replace Gb := zH (Gb.out.below hb)
 replace Gd := zH (Gd.out.below hb)
 replace Gf := zH (Gf.out.below hb)
 replace Gg := zH (Gg.out.below hb)
 replace GX := zH (GX.out.below hb)
 have HX6 := zH (Nat.le_trans HX5.out hb.size)
 have H21 := zH (H20.out.below hb)
 have HB21 := zH (below_more HB20.out hb HGl.out)
 clear hb x0 x1 x2 x3 x4 H20 HB20
 obtain ⟨x0, x1, x2, x3, x4⟩ := cfg5 H21.out
 go_wp2_with fail
 refine (judge0 Gb.out kc_b).mono ?_
 rintro e2 w21 ⟨rfl, hb⟩
 replace Gd := zH (Gd.out.below hb)
 replace Gf := zH (Gf.out.below hb)
 replace Gg := zH (Gg.out.below hb)
 replace GX := zH (GX.out.below hb)
 have HX7 := zH (Nat.le_trans HX6.out hb.size)
 have H22 := zH (H21.out.below hb)
 have HB22 := zH (below_more HB21.out hb HGl.out)
 clear hb x0 x1 x2 x3 x4 H21 HB21
 obtain ⟨x0, x1, x2, x3, x4⟩ := cfg5 H22.out
 go_wp2_with fail
 refine (judge0 Gd.out kc_d).mono ?_
 rintro e2 w22 ⟨rfl, hb⟩
 replace Gf := zH (Gf.out.below hb)
 replace Gg := zH (Gg.out.below hb)
 replace Gd := zH (Gd.out.below hb)
 replace GX := zH (GX.out.below hb)
 have HX8 := zH (Nat.le_trans HX7.out hb.size)
 have H23 := zH (H22.out.below hb)
 have HB23 := zH (below_more HB22.out hb HGl.out)
 clear hb x0 x1 x2 x3 x4 H22 HB22
 obtain ⟨x0, x1, x2, x3, x4⟩ := cfg5 H23.out
 go_wp2_with fail
 refine (judge0 Gf.out kc_f).mono ?_
 rintro e2 w23 ⟨rfl, hb⟩
 replace Gg := zH (Gg.out.below hb)
 replace Gd := zH (Gd.out.below hb)
 replace GX := zH (GX.out.below hb)
 have HX9 := zH (Nat.le_trans HX8.out hb.size)
 have H24 := zH (H23.out.below hb)
 have HB24 := zH (below_more HB23.out hb HGl.out)
 clear hb x0 x1 x2 x3 x4 H23 HB23
 obtain ⟨x0, x1, x2, x3, x4⟩ := cfg5 H24.out
 go_wp2_with fail
 refine (judgeG Gg.out GX.out HX9.out).mono ?_
 rintro e2 w24 ⟨rfl, hb⟩
 replace Gd := zH (Gd.out.below hb)
 replace GX := zH (GX.out.below hb)
 have HX10 := zH (Nat.le_trans HX9.out hb.size)
 have H25 := zH (H24.out.below hb)
 have HB25 := zH (below_more HB24.out hb HGl.out)
 clear hb x0 x1 x2 x3 x4 H24 HB24
 obtain ⟨x0, x1, x2, x3, x4⟩ := cfg5 H25.out
 go_wp2_with fail
 refine (check0 _).mono ?_
 rintro e2 w25 ⟨rfl, hb⟩
 have H26 := zH (H25.out.below hb)
 have HB26 := zH (below_more HB25.out hb HGl.out)
 replace Gd := zH (Gd.out.below hb)
 clear hb x0 x1 x2 x3 x4 H25 HB25
 obtain ⟨x0, x1, x2, x3, x4⟩ := cfg5 H26.out
 go_wp2_with fail
 refine (live0 Gd.out).mono ?_
 rintro e2 w26 ⟨⟨v, rfl⟩, hb⟩
 have HB27 := zH (below_more HB26.out hb HGl.out)
 clear hb x0 x1 x2 x3 x4
 go_wp2_with fail
 go_ret
 exact ⟨rfl, by have := HB27.out; rw [← HGe.out] at this; exact this⟩
end Go.Proofs.YtnabbimompapfaaGreat

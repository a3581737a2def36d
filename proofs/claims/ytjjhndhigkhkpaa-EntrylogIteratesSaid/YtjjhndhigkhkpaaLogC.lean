/- The walks of a log's methods (layer 9), further: slices.Clone of entries, Copy, Next, All. -/
import Derived.Test.YtjjhndhigkhkpaaLogB
import Derived.Deep.RegionHeld3
namespace Go.Proofs.Ytjjhndhigkhkpaa
open Go Go.RowKit
attribute [local go_sem ↓] Go.wp_at_zero Go.wp_at_succ

theorem Src.alloc {w : World} {size m : Nat} {A : Option Addr} {news : List Value} (h : Src w size A m news) (o : Obj) : Src (w.alloc o) size A m news :=
  ⟨h.1, h.2.1, fun a ha j u hu => by
    have := h.2.2 a ha j u hu
    rw [World.cell?_alloc_lt w o _ (block_lt_of_cell this)]
    exact this⟩

/-- What a row of the call's own hands to append. -/
theorem src_own {w : World} {base : Nat} {e : TypeId} {size n cap : Nat} {A : Option Addr} {xs : List Value} (h : w.ownsRow base e size (.slice A n cap) n xs) : Src w size A n xs := by
  refine ⟨h.1, ?_, ?_⟩
  · intro ha
    subst ha
    rcases h.2 with ⟨e, _⟩ | ⟨g, cap', cur, e, _⟩
    · injection e
    · injection e with e; cases e
  · intro a ha j u hu
    subst ha
    rcases h.2 with ⟨e, _⟩ | ⟨g, cap', cur, e, _⟩
    · injection e with e; cases e
    · injection e with e
      injection e with e
      subst e
      exact h.cells (g := g) rfl j u hu

set_option maxHeartbeats 400000 in
theorem entsClone_any (A : Option Addr) (n cap : Nat) (cs : List Value) (w : World) (hs : Src w 4 A n cs) (h1 : ∀ u ∈ cs, u.oneCell' = true) (hn : n ≤ 1000000000) :
    Calls Try.prog 41 #[.slice A n cap] w fun e w' => ∃ v, e = .returned v ∧ w'.ownsRow w.heap.size 31 4 v n cs ∧ Below w.heap.size w w' := by
  obtain ⟨i0, hi0, hz0, hz1, hz2⟩ := info_parts ent_info
  have HL := Lib.hid hn
  clear hn
  cases A with
  | none =>
    have h0 := hs.2.1 rfl
    subst h0
    have : cs = [] := by simpa using hs.1
    subst this
    clear hs h1
    go_enter Try.func41, Try.ntmps41
    go_wp2
    go_ret
    exact ⟨_, rfl, World.ownsRow_nil _ _ _ _, Below.refl _ _⟩
  | some a =>
    have HS := Lib.hid hs
    have H1 := Lib.hid h1
    clear hs h1
    go_enter Try.func41, Try.ntmps41
    go_wp2_with (at_builtin; refine wpList_append_src _ rfl _ _ _ rfl w.heap.size 31 i0 _ 4 56 Try.underlying47 hi0 hz0 hz1 hz2 rfl (by decide) _ 0 [] rfl (own_empty w _ _) (some a) n cap cs rfl (HS.out.alloc _) H1.out (by have := HL.out; unfold maxLen; omega) (by have := HL.out; omega) (by simp) ?_; intro v1 w1 hown hg hat)
    go_ret
    refine ⟨v1, rfl, by simpa using hown, ?_⟩
    exact ((Below.refl _ _).alloc (Nat.le_refl _) _).grown hg (by simp) (by intro k hk; cases hk; exact Nat.le_refl _)

theorem LogRep.drew {w : World} {B b : Nat} {lv : Value} {ps : List (Ent × Value)} (h : LogRep w B b lv ps) : LogRep w.drew B b lv ps := h.below (Below.refl _ _).drew

theorem LogRep.one {w : World} {B b : Nat} {lv : Value} {ps : List (Ent × Value)} (h : LogRep w B b lv ps) : ∀ u ∈ ecs ps, u.oneCell' = true :=
  ecells_one ps fun p hp => by obtain ⟨A, cap, e⟩ := (h.vals p hp).form; exact ⟨A, _, cap, e⟩

set_option maxHeartbeats 800000 in
theorem logCopy_any (B b : Nat) (lv : Value) (ps : List (Ent × Value)) (w : World) (h : LogRep w B b lv ps) (hB : B ≤ w.heap.size) :
    Calls Try.prog 26 #[.pointer (some ⟨b, 0, none⟩)] w fun e w' =>
      ∃ c lv', e = .returned (.pointer (some ⟨c, 0, none⟩)) ∧ LogRep w' B c lv' ps ∧ Below w.heap.size w w' ∧ w.heap.size ≤ c ∧ (∀ k, lv'.ownBlock = some k → w.heap.size ≤ k) := by
  obtain ⟨A, cap, rfl, hc1, hc2⟩ := own_form h.row
  clear hc1 hc2
  have HR := Lib.hid h
  have hk1 := h.blk.cell 1 _ rfl
  have hk2 := h.blk.cell 2 _ rfl
  have HCl := Lib.hid (fun W hW => entsClone_any A ps.length cap (ecs ps) W hW h.one (by have := h.len; omega))
  clear h
  go_enter Try.func26, Try.ntmps26
  go_wp2_with (go_at_call 29; refine (logZero_some _ _ _ _ HR.out.blk).mono ?_; rintro e w' ⟨rfl, rfl⟩)
  go_region_held3 (fun w' => w'.cell? ⟨b, 1, none⟩ = some (.slice A ps.length cap) ∧ w'.cell? ⟨b, 2, none⟩ = some (.int .i64 (liveN ps))) (first | exact ⟨q1, q2⟩ | go_keep)
    ((first | (go_at_call 41; refine (HCl.out _ (src_own HR.out.drew.row)).mono ?_; rintro e w1 ⟨v1, rfl, hown, hbel⟩; have hr1 := HR.out.drew.below hbel; obtain ⟨A1, c1, rfl, hx1, hx2⟩ := own_form hown; clear hx1 hx2; have q1 := hr1.blk.cell 1 _ rfl; have q2 := hr1.blk.cell 2 _ rfl; have HO := Lib.hid hown; have HBe := Lib.hid hbel; have HR1 := Lib.hid hr1; clear hown hbel hr1)))
  go_wp2
  go_ret
  have hbe := below_drew HBe.out
  have hle : w.heap.size ≤ w1.heap.size := hbe.size
  refine ⟨_, _, rfl, ⟨Blk.new _ _ _, ?_, fun p hp => ?_, by omega, HR.out.len⟩, hbe.alloc hle _, hle, fun k hk => (row_block HO.out hk).1⟩
  · exact (ownsRow_base HO.out hB).alloc _
  · exact (HR1.out.vals p hp).alloc _

set_option maxHeartbeats 400000 in
theorem logNext_some (B b : Nat) (lv : Value) (ps : List (Ent × Value)) (i j : Nat) (w : World) (h : LogRep w B b lv ps) (hij : i ≤ j) (hj : ∃ x v, Has ps j x v) (hno : ∀ k, i ≤ k → k < j → Hasnt ps k) :
    Calls Try.prog 43 #[.pointer (some ⟨b, 0, none⟩), .int .u32 i] w fun e w' => e = .returned (.tuple #[.int .u32 j, .int .i64 0]) ∧ w = w' := by
  obtain ⟨x, xv, hp⟩ := hj
  have hlen := h.len
  have hjl := hp.lt
  have HR := Lib.hid h
  have HP := Lib.hid hp
  have HN := Lib.hid hno
  obtain ⟨A, cap, rfl, hc1, hc2⟩ := own_form h.row
  have hk1 := h.blk.cell 1 _ rfl
  have hiI : (i : Int) ≤ 4294967295 := by omega
  clear h hp hno hc2 hlen
  go_enter Try.func43, Try.ntmps43
  go_wp2_with (go_at_call 29; refine (logZero_some _ _ _ _ HR.out.blk).mono ?_; rintro e w' ⟨rfl, rfl⟩)
  go_loop [6] (fun v => ∃ k : Nat, i ≤ k ∧ k ≤ j ∧ v = .int .i64 k) (fun v => j - (intOf v).toNat)
  case atStart => exact ⟨i, by omega, hij, rfl⟩
  case round =>
    obtain ⟨k, hk1', hk2, rfl⟩ := hrel
    rcases Nat.lt_or_ge k j with hlt | hge
    · have hkl : k < ps.length := by omega
      have hz := HN.out k hk1' hlt ps[k].1 ps[k].2 (List.getElem?_eq_getElem hkl)
      obtain ⟨g, cap', e, _, _, _, _, _, _, _, _, c3, _⟩ := HR.out.at_ (x := ps[k].1) (v := ps[k].2) (List.getElem?_eq_getElem hkl)
      rw [hz] at c3
      injection e with e1 _ e3
      subst e1 e3
      have hklI : (k : Int) < (ps.length : Int) := by omega
      have hcI : (ps.length : Int) ≤ (cap : Int) := by omega
      have hu : (k : Int) ≤ 4294967295 := by have := HR.out.len; omega
      clear hz
      go_wp2
      go_round
      case rel => exact ⟨k + 1, by omega, by omega, by go_num⟩
      case measure => simp [intOf]; omega
    · obtain rfl : k = j := by omega
      obtain ⟨g, cap', e, _, _, _, _, _, _, _, _, c3, _⟩ := HR.out.at_ HP.out.at_
      have hz : (x.birth == 0) = false := by simpa using HP.out.birth
      injection e with e1 _ e3
      subst e1 e3
      have hklI : (k : Int) < (ps.length : Int) := by omega
      have hcI : (ps.length : Int) ≤ (cap : Int) := by omega
      have hu : (k : Int) ≤ 4294967295 := by have := HR.out.len; omega
      go_wp2
      go_ret2
      exact ⟨rfl, rfl⟩

set_option maxHeartbeats 400000 in
theorem logNext_none (B b : Nat) (lv : Value) (ps : List (Ent × Value)) (i : Nat) (w : World) (h : LogRep w B b lv ps) (h32 : (i : Int) ≤ 4294967295) (hno : ∀ k, i ≤ k → Hasnt ps k) :
    Calls Try.prog 43 #[.pointer (some ⟨b, 0, none⟩), .int .u32 i] w fun e w' => e = .returned (.tuple #[.int .u32 0, .int .i64 9]) ∧ w = w' := by
  have hlen := h.len
  have HR := Lib.hid h
  have HN := Lib.hid hno
  obtain ⟨A, cap, rfl, hc1, hc2⟩ := own_form h.row
  have hk1 := h.blk.cell 1 _ rfl
  clear h hno hc2
  go_enter Try.func43, Try.ntmps43
  go_wp2_with (go_at_call 29; refine (logZero_some _ _ _ _ HR.out.blk).mono ?_; rintro e w' ⟨rfl, rfl⟩)
  go_loop [6] (fun v => ∃ k : Nat, i ≤ k ∧ (k : Int) ≤ 4294967296 ∧ v = .int .i64 k) (fun v => ps.length - (intOf v).toNat)
  case atStart => exact ⟨i, by omega, by omega, rfl⟩
  case round =>
    obtain ⟨k, hk1', hk2, rfl⟩ := hrel
    rcases Nat.lt_or_ge k ps.length with hkl | hge
    · have hz := HN.out k hk1' ps[k].1 ps[k].2 (List.getElem?_eq_getElem hkl)
      obtain ⟨g, cap', e, _, _, _, _, _, _, _, _, c3, _⟩ := HR.out.at_ (x := ps[k].1) (v := ps[k].2) (List.getElem?_eq_getElem hkl)
      rw [hz] at c3
      injection e with e1 _ e3
      subst e1 e3
      have hklI : (k : Int) < (ps.length : Int) := by omega
      have hcI : (ps.length : Int) ≤ (cap : Int) := by omega
      clear hz
      go_wp2
      go_round
      case rel => exact ⟨k + 1, by omega, by omega, by go_num⟩
      case measure => simp [intOf]; omega
    · have hklI : (ps.length : Int) ≤ (k : Int) := by omega
      have hd : decide ((k : Int) < (ps.length : Int)) = false := decide_eq_false (by omega)
      go_wp2
      go_ret2
      exact ⟨rfl, rfl⟩

end Go.Proofs.Ytjjhndhigkhkpaa

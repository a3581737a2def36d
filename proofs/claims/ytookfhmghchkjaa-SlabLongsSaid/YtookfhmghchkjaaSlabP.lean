/- An arena as plain lists: what each call makes of it. No program in sight. -/
import Derived.Test.YtookfhmghchkjaaSlabJ
namespace Go.Proofs.Ytookfhmghchkjaa
open Go Go.RowKit

structure PSh where
  cs : List (List UInt8 × Bool)
  fr : List Nat
def PSt := Nat → PSh
def pupd (st : PSt) (k : Nat) (s : PSh) : PSt := fun j => if j = k then s else st j
theorem pupd_same (st : PSt) (k : Nat) (s : PSh) : pupd st k s k = s := by simp [pupd]
theorem pupd_other (st : PSt) {k j : Nat} (s : PSh) (h : j ≠ k) : pupd st k s j = st j := by simp [pupd, h]

def CelV.bare (c : CelV) : List UInt8 × Bool := (c.bs, c.used)
def SIs (sh : Nat → ShV) (st : PSt) : Prop := ∀ k, k < 13 → (sh k).cs.map CelV.bare = (st k).cs ∧ (sh k).fr = (st k).fr

def pall (st : PSt) (m : Nat) : Nat := sumTo (fun k => csize k * (st k).cs.length) m
def pused (st : PSt) (m : Nat) : Nat := sumTo (fun k => csize k * ((st k).cs.length - (st k).fr.length)) m
def pheldL (cs : List (List UInt8 × Bool)) : Nat := (cs.map fun c => c.1.length).sum
def pheld (st : PSt) (m : Nat) : Nat := sumTo (fun k => pheldL (st k).cs) m

/-- The used cell of a number in a class. -/
def phas (st : PSt) (K N : Int) : Option (List UInt8) :=
  if 0 ≤ K ∧ K < 13 ∧ 0 ≤ N then
    match (st K.toNat).cs[N.toNat]? with
    | some (bs, true) => some bs
    | _ => none
  else none

/-- Put. -/
def pput (most : Int) (st : PSt) (bs : List UInt8) : Int × Int × Int × PSt :=
  if 65536 < bs.length then (0, 0, 5, st)
  else
    match (st (classN bs.length)).fr.getLast? with
    | some n => ((classN bs.length : Int), (n : Int), 0, pupd st (classN bs.length) ⟨(st (classN bs.length)).cs.set n (bs, true), (st (classN bs.length)).fr.dropLast⟩)
    | none =>
      if most < (pall st 13 : Int) + (csize (classN bs.length) : Int) then (0, 0, 7, st)
      else ((classN bs.length : Int), ((st (classN bs.length)).cs.length : Int), 0, pupd st (classN bs.length) ⟨(st (classN bs.length)).cs ++ [(bs, true)], (st (classN bs.length)).fr⟩)

/-- Free. -/
def pfree (st : PSt) (K N : Int) : Int × PSt :=
  match phas st K N with
  | none => (9, st)
  | some _ => (0, pupd st K.toNat ⟨(st K.toNat).cs.set N.toNat ([], false), (st K.toNat).fr ++ [N.toNat]⟩)

/-- Swap. -/
def pswap (most : Int) (st : PSt) (K N : Int) (bs : List UInt8) : Int × Int × Int × PSt :=
  match phas st K N with
  | none => (0, 0, 9, st)
  | some _ =>
    if bs.length ≤ 65536 ∧ (classN bs.length : Int) = K then (K, N, 0, pupd st K.toNat ⟨(st K.toNat).cs.set N.toNat (bs, true), (st K.toNat).fr⟩)
    else if (pput most st bs).2.2.1 = 0 then ((pput most st bs).1, (pput most st bs).2.1, 0, (pfree (pput most st bs).2.2.2 K N).2)
    else (0, 0, (pput most st bs).2.2.1, st)

/-- What the arena keeps. -/
structure PWf (m : Nat) (st : PSt) : Prop where
  len : ∀ k, k < 13 → (st k).cs.length ≤ m
  fr : ∀ k, k < 13 → ∀ n ∈ (st k).fr, (st k).cs[n]? = some ([], false)
  nodup : ∀ k, k < 13 → (st k).fr.Nodup
  bs : ∀ k, k < 13 → ∀ c ∈ (st k).cs, c.1.length ≤ csize k

theorem nodup_bound : ∀ (m : Nat) (l : List Nat), l.Nodup → (∀ x ∈ l, x < m) → l.length ≤ m
  | 0, l, _, hb => by
    cases l with
    | nil => simp
    | cons x l => have := hb x List.mem_cons_self; omega
  | m + 1, l, hn, hb => by
    by_cases hm : m ∈ l
    · have h1 := nodup_bound m (l.erase m) (hn.erase m) (fun x hx => by
        have h2 := (hn.mem_erase_iff).1 hx
        have := hb x h2.2
        have := h2.1
        omega)
      rw [List.length_erase_of_mem hm] at h1
      omega
    · have := nodup_bound m l hn (fun x hx => by
        have h2 := hb x hx
        have h3 : x ≠ m := fun e => hm (e ▸ hx)
        omega)
      omega

theorem PWf.frlt {m : Nat} {st : PSt} (h : PWf m st) {k n : Nat} (hk : k < 13) (hn : n ∈ (st k).fr) : n < (st k).cs.length := (List.getElem?_eq_some_iff.1 (h.fr k hk n hn)).1
theorem PWf.frlen {m : Nat} {st : PSt} (h : PWf m st) {k : Nat} (hk : k < 13) : (st k).fr.length ≤ (st k).cs.length := nodup_bound _ _ (h.nodup k hk) (fun _ hx => h.frlt hk hx)

section
variable {sh : Nat → ShV} {st : PSt}
theorem SIs.len (h : SIs sh st) {k : Nat} (hk : k < 13) : (sh k).cs.length = (st k).cs.length := by rw [← (h k hk).1, List.length_map]
theorem SIs.at_ (h : SIs sh st) {k n : Nat} (hk : k < 13) {c : List UInt8 × Bool} (hc : (st k).cs[n]? = some c) : ∃ d, (sh k).cs[n]? = some d ∧ d.bs = c.1 ∧ d.used = c.2 := by
  rw [← (h k hk).1, List.getElem?_map] at hc
  cases hd : (sh k).cs[n]? with
  | none => rw [hd] at hc; cases hc
  | some d =>
    rw [hd] at hc
    simp [CelV.bare] at hc
    exact ⟨d, rfl, by rw [← hc], by rw [← hc]⟩
theorem SIs.small {m : Nat} (h : SIs sh st) (hw : PWf m st) (hm : m ≤ 1000) : SSmall sh := by
  refine ⟨fun k hk => ?_, fun k hk => ?_, fun k hk c hc => ?_⟩
  · rw [h.len hk]; exact Nat.le_trans (hw.len k hk) hm
  · rw [h.len hk, (h k hk).2]; exact hw.frlen hk
  · have h1 : c.bare ∈ (st k).cs := by rw [← (h k hk).1]; exact List.mem_map_of_mem hc
    exact Nat.le_trans (hw.bs k hk _ h1) (csize_le hk).2
theorem sumTo_congr {f g : Nat → Nat} : ∀ m, m ≤ 13 → (∀ k, k < 13 → f k = g k) → sumTo f m = sumTo g m
  | 0, _, _ => rfl
  | m + 1, hm, h => by simp only [sumTo]; rw [sumTo_congr m (by omega) h, h m (by omega)]
theorem SIs.all (h : SIs sh st) : allN sh 13 = pall st 13 := sumTo_congr 13 (Nat.le_refl _) (fun k hk => by rw [h.len hk])
theorem SIs.used (h : SIs sh st) : usedI sh 13 = pused st 13 := sumTo_congr 13 (Nat.le_refl _) (fun k hk => by rw [h.len hk, (h k hk).2])
theorem SIs.held (h : SIs sh st) : heldN sh 13 = pheld st 13 := sumTo_congr 13 (Nat.le_refl _) (fun k hk => by rw [← (h k hk).1]; simp [heldL, pheldL, CelV.bare, Function.comp_def])
theorem SIs.upd (h : SIs sh st) {k : Nat} {s : ShV} {p : PSh} (hc : s.cs.map CelV.bare = p.cs) (hf : s.fr = p.fr) : SIs (upd sh k s) (pupd st k p) := fun j hj => by
  by_cases e : j = k
  · subst e; rw [upd_same, pupd_same]; exact ⟨hc, hf⟩
  · rw [upd_other sh s e, pupd_other st p e]; exact h j hj
theorem SIs.has (h : SIs sh st) (K N : Int) : (hasC sh K N).map CelV.bs = phas st K N := by
  unfold hasC phas
  by_cases hr : 0 ≤ K ∧ K < 13 ∧ 0 ≤ N
  · rw [if_pos hr, if_pos hr]
    rw [← (h K.toNat (by omega)).1, List.getElem?_map]
    cases (sh K.toNat).cs[N.toNat]? with
    | none => rfl
    | some c =>
      simp only [Option.map_some, CelV.bare]
      cases hu : c.used <;> simp
  · rw [if_neg hr, if_neg hr]; rfl
end

/-- Blocks that no arena writes: those below B, and those of cells of other types, and what is no row of cells (a map, a map's iterator). -/
structure KeepS (B : Nat) (w w' : World) : Prop where
  rows : ∀ U, ¬ U = 65 → ¬ U = 78 → ¬ U = 3 → KeepB B U w w'
  other : ∀ (k : Nat) (o : Obj), w.heap[k]? = some o → (∀ c t fr, o ≠ Obj.cells c t fr) → w'.heap[k]? = some o
theorem KeepS.of_below {B : Nat} {w w' : World} (h : Below w.heap.size w w') : KeepS B w w' := ⟨fun _ _ _ _ => KeepB.of_below h, fun k o ho _ => (h.block k (lt_of_heap ho)).trans ho⟩
theorem KeepS.trans {B : Nat} {a b c : World} (h : KeepS B a b) (k : KeepS B b c) : KeepS B a c := ⟨fun U h1 h2 h3 => (h.rows U h1 h2 h3).trans (k.rows U h1 h2 h3), fun i o ho hn => k.other i o (h.other i o ho hn) hn⟩
theorem KeepS.u8 {B : Nat} {w w' : World} (h : KeepS B w w') : KeepB B 5 w w' := h.rows _ (by decide) (by decide) (by decide)
theorem KeepS.blk {B U k : Nat} {w w' : World} {cs : Array Value} (h : KeepS B w w') (hb : Blk w k U cs) (h1 : ¬ U = 65) (h2 : ¬ U = 78) (h3 : ¬ U = 3) : Blk w' k U cs := ((h.rows U h1 h2 h3).2 k hb.lt (.inr ⟨_, _, hb⟩)).trans hb
theorem SRep.keepS {w w' : World} {B b : Nat} {most : Int} {sh : Nat → ShV} (h : SRep w B b most sh) (ho : Only (slabFp b sh) w w') : KeepS B w w' := ⟨fun U h1 h2 h3 =>
  KeepB.of_only ho fun k hk hs => ⟨(h.fp_lt hs).1, fun c fr e => by
    obtain ⟨cur, t, h4, ht⟩ := h.fp_type hs
    rw [h4] at e
    injection e with e
    injection e with _ e
    subst e
    rcases ht with ht | ht | ht
    · exact h1 ht
    · exact h2 ht
    · exact h3 ht⟩, fun k o hk hn => (ho.block k (lt_of_heap hk) fun hs => by
    obtain ⟨cur, t, h4, _⟩ := h.fp_type hs
    rw [h4] at hk
    injection hk with hk
    exact hn _ _ _ hk.symm).trans hk⟩
theorem SRep.belowB {w w' : World} {B b : Nat} {most : Int} {sh : Nat → ShV} (h : SRep w B b most sh) (ho : Only (slabFp b sh) w w') : Below B w w' :=
  ho.below (fun i _ _ e => by have := (h.fp_lt e).1; omega) (Nat.le_trans h.base (Nat.le_of_lt h.blk.lt))

/-- The arena at b holds what the plain lists say. -/
def ARep (w : World) (B b : Nat) (most : Int) (st : PSt) : Prop := ∃ sh, SRep w B b most sh ∧ SIs sh st
theorem ARep.below {w w' : World} {B b : Nat} {most : Int} {st : PSt} (h : ARep w B b most st) (hb : Below w.heap.size w w') : ARep w' B b most st := by
  obtain ⟨sh, h1, h2⟩ := h
  exact ⟨sh, h1.below hb, h2⟩
theorem ARep.alloc {w : World} {B b : Nat} {most : Int} {st : PSt} (h : ARep w B b most st) (o : Obj) : ARep (w.alloc o) B b most st := h.below ((Below.refl _ _).alloc (Nat.le_refl _) o)
theorem ARep.drew {w : World} {B b : Nat} {most : Int} {st : PSt} (h : ARep w B b most st) : ARep w.drew B b most st := h.below (Below.refl _ _).drew

def APost (B b : Nat) (most : Int) (v : Value) (st : PSt) (w : World) (e : Ending) (w' : World) : Prop := e = .returned v ∧ ARep w' B b most st ∧ KeepS B w w' ∧ Below B w w'

/-- Each cell's bytes are an old cell's, or lie in a block that is new. -/
def ValsOk (n : Nat) (sh sh' : Nat → ShV) : Prop := ∀ k, k < 13 → ∀ c ∈ (sh' k).cs, (∃ c0 ∈ (sh k).cs, c.v = c0.v) ∨ ∀ g, c.v.ownBlock = some g → n ≤ g
theorem ValsOk.refl (n : Nat) (sh : Nat → ShV) : ValsOk n sh sh := fun _ _ c hc => .inl ⟨c, hc, rfl⟩
theorem ValsOk.upd {n : Nat} {sh : Nat → ShV} {k : Nat} {s : ShV} (h : ∀ c ∈ s.cs, (∃ c0 ∈ (sh k).cs, c.v = c0.v) ∨ ∀ g, c.v.ownBlock = some g → n ≤ g) : ValsOk n sh (upd sh k s) := fun j hj c hc => by
  by_cases e : j = k
  · subst e; rw [upd_same] at hc; exact h c hc
  · rw [upd_other sh s e] at hc; exact .inl ⟨c, hc, rfl⟩
theorem vals_set {n i : Nat} {cs : List CelV} {d : CelV} (hd : ∀ g, d.v.ownBlock = some g → n ≤ g) : ∀ c ∈ cs.set i d, (∃ c0 ∈ cs, c.v = c0.v) ∨ ∀ g, c.v.ownBlock = some g → n ≤ g := fun c hc => by
  rcases List.mem_or_eq_of_mem_set hc with hc | rfl
  · exact .inl ⟨c, hc, rfl⟩
  · exact .inr hd
theorem vals_snoc {n : Nat} {cs : List CelV} {d : CelV} (hd : ∀ g, d.v.ownBlock = some g → n ≤ g) : ∀ c ∈ cs ++ [d], (∃ c0 ∈ cs, c.v = c0.v) ∨ ∀ g, c.v.ownBlock = some g → n ≤ g := fun c hc => by
  rcases List.mem_append.1 hc with hc | hc
  · exact .inl ⟨c, hc, rfl⟩
  · simp at hc; subst hc; exact .inr hd
theorem ValsOk.trans {n m : Nat} {a b c : Nat → ShV} (hnm : n ≤ m) (h : ValsOk n a b) (k : ValsOk m b c) : ValsOk n a c := fun j hj x hx => by
  rcases k j hj x hx with ⟨y, hy, e⟩ | h1
  · rcases h j hj y hy with ⟨z, hz, e2⟩ | h2
    · exact .inl ⟨z, hz, e.trans e2⟩
    · exact .inr (fun g hg => h2 g (by rw [← e]; exact hg))
  · exact .inr (fun g hg => Nat.le_trans hnm (h1 g hg))

/-- What a call leaves, with the blocks that it may have written. -/
structure FP (B b : Nat) (most : Int) (st : PSt) (sh sh' : Nat → ShV) (w w' : World) : Prop where
  rep : SRep w' B b most sh'
  is : SIs sh' st
  only : Only (slabFp b sh) w w'
  fp : ∀ j, slabFp b sh' j → slabFp b sh j ∨ w.heap.size ≤ j
  vals : ValsOk w.heap.size sh sh'
theorem FP.refl {B b : Nat} {most : Int} {sh : Nat → ShV} {st : PSt} {w w' : World} (hr : SRep w B b most sh) (hi : SIs sh st) (hb : Below w.heap.size w w') : FP B b most st sh sh w w' := ⟨hr.below hb, hi, Only.of_below hb, fun _ h => .inl h, ValsOk.refl _ _⟩
theorem FP.trans {B b : Nat} {most : Int} {s1 s2 : PSt} {a c d : Nat → ShV} {w w1 w2 : World} (h : FP B b most s1 a c w w1) (k : FP B b most s2 c d w1 w2) : FP B b most s2 a d w w2 :=
  ⟨k.rep, k.is, h.only.trans (T := slabFp b c) k.only (fun i hi e => (h.fp i e).elim (fun x => x) (fun x => by omega)), fun j hj => (k.fp j hj).elim (fun x => h.fp j x) (fun x => .inr (Nat.le_trans h.only.size x)), h.vals.trans h.only.size k.vals⟩
theorem FP.below {B b : Nat} {most : Int} {st : PSt} {sh sh' : Nat → ShV} {w w' w2 : World} (h : FP B b most st sh sh' w w') (hb : Below w'.heap.size w' w2) : FP B b most st sh sh' w w2 := h.trans (FP.refl h.rep h.is hb)
theorem FP.after {B b : Nat} {most : Int} {st : PSt} {sh sh' : Nat → ShV} {w wa w' : World} (hb : Below w.heap.size w wa) (h : FP B b most st sh sh' wa w') : FP B b most st sh sh' w w' :=
  ⟨h.rep, h.is, (Only.of_below hb).trans (T := slabFp b sh) h.only (fun _ _ e => e), fun j hj => (h.fp j hj).imp (fun x => x) (fun x => Nat.le_trans hb.size x), (ValsOk.refl _ _).trans hb.size h.vals⟩
def FPost (B b : Nat) (most : Int) (sh : Nat → ShV) (v : Value) (st : PSt) (w : World) (e : Ending) (w' : World) : Prop := e = .returned v ∧ ∃ sh', FP B b most st sh sh' w w'
theorem FP.a {B b : Nat} {most : Int} {sh sh' : Nat → ShV} {v : Value} {st : PSt} {w : World} {w' : World} (hr : SRep w B b most sh) (h : FP B b most st sh sh' w w') : APost B b most v st w (.returned v) w' := ⟨rfl, ⟨sh', h.rep, h.is⟩, hr.keepS h.only, hr.belowB h.only⟩
theorem FPost.a {B b : Nat} {most : Int} {sh : Nat → ShV} {v : Value} {st : PSt} {w : World} {e : Ending} {w' : World} (hr : SRep w B b most sh) (h : FPost B b most sh v st w e w') : APost B b most v st w e w' := by
  obtain ⟨rfl, sh', h⟩ := h
  exact h.a hr
theorem FPost.same {B b : Nat} {most : Int} {sh : Nat → ShV} {v : Value} {st : PSt} {w w' : World} (hr : SRep w B b most sh) (hi : SIs sh st) (hb : Below w.heap.size w w') : FPost B b most sh v st w (.returned v) w' :=
  ⟨rfl, sh, FP.refl hr hi hb⟩
theorem fp_grow {b n : Nat} {sh : Nat → ShV} {k : Nat} {s : ShV} (hk : k < 13) (hc : ∀ g, s.cv.ownBlock = some g → (sh k).cv.ownBlock = some g ∨ n ≤ g) (hf : ∀ g, s.fv.ownBlock = some g → (sh k).fv.ownBlock = some g ∨ n ≤ g) : ∀ j, slabFp b (upd sh k s) j → slabFp b sh j ∨ n ≤ j := by
  intro j hj
  rcases hj with hj | ⟨i, hi, hj⟩
  · exact .inl (.inl hj)
  · by_cases e : i = k
    · subst e
      rw [upd_same] at hj
      rcases hj with hj | hj
      · rcases hc j hj with h | h
        · exact .inl (.inr ⟨i, hi, .inl h⟩)
        · exact .inr h
      · rcases hf j hj with h | h
        · exact .inl (.inr ⟨i, hi, .inr h⟩)
        · exact .inr h
    · rw [upd_other sh s e] at hj
      exact .inl (.inr ⟨i, hi, hj⟩)

theorem getLast_some {fr : List Nat} {n : Nat} (h : fr.getLast? = some n) : fr = fr.dropLast ++ [n] := by
  cases fr with
  | nil => simp at h
  | cons x l =>
    rw [List.getLast?_eq_some_getLast (by simp)] at h
    injection h with h
    rw [← h]; exact (List.dropLast_concat_getLast (by simp)).symm

theorem fPut (m B b : Nat) (most : Int) (sh : Nat → ShV) (st : PSt) (v : Value) (bs : List UInt8) (w : World) (hr : SRep w B b most sh) (hi : SIs sh st) (hw : PWf m st) (hm : m ≤ 1000) (hv : Bts w B 5 v bs) :
    Calls Try.prog 15 #[.pointer (some ⟨b, 0, none⟩), v] w (FPost B b most sh (.tuple #[.agg #[.int .i64 (pput most st bs).1, .int .i64 (pput most st bs).2.1], .int .i64 (pput most st bs).2.2.1]) (pput most st bs).2.2.2 w) := by
  have hs := hi.small hw hm
  by_cases hl : 65536 < bs.length
  · have e : pput most st bs = (0, 0, 5, st) := by unfold pput; rw [if_pos hl]
    rw [e]
    refine (slabPut_long B b most sh v bs w hr hv hl).mono ?_
    rintro e w' ⟨rfl, hb⟩
    exact FPost.same hr hi hb
  · have hk : classN bs.length < 13 := by have := classN_le (n := bs.length) (by omega); omega
    cases hg : (st (classN bs.length)).fr.getLast? with
    | some n =>
      have hfr := getLast_some hg
      have hmem : n ∈ (st (classN bs.length)).fr := by rw [hfr]; simp
      obtain ⟨d, hd, hd1, hd2⟩ := hi.at_ hk (hw.fr _ hk n hmem)
      have e : pput most st bs = ((classN bs.length : Int), (n : Int), 0, pupd st (classN bs.length) ⟨(st (classN bs.length)).cs.set n (bs, true), (st (classN bs.length)).fr.dropLast⟩) := by unfold pput; rw [if_neg hl, hg]
      rw [e]
      refine (slabPut_old B b most sh v bs w hr hs hv (by omega) _ rfl (st (classN bs.length)).fr.dropLast n d (by rw [(hi _ hk).2]; exact hfr) hd).mono ?_
      rintro e w' ⟨rfl, fv', v', h1, h2, h3, h4⟩
      refine ⟨rfl, _, h1, hi.upd ?_ rfl, h2, fp_grow hk (fun g h => .inl h) (fun g h => .inl (h3 g h)), ValsOk.upd (vals_set h4)⟩
      rw [List.map_set, (hi _ hk).1]; rfl
    | none =>
      have hfr : (st (classN bs.length)).fr = [] := by
        cases hf : (st (classN bs.length)).fr with
        | nil => rfl
        | cons x l => rw [hf, List.getLast?_eq_some_getLast (by simp)] at hg; cases hg
      by_cases hf : most < (pall st 13 : Int) + (csize (classN bs.length) : Int)
      · have e : pput most st bs = (0, 0, 7, st) := by unfold pput; rw [if_neg hl, hg]; dsimp only; rw [if_pos hf]
        rw [e]
        refine (slabPut_full B b most sh v bs w hr hs hv (by omega) _ rfl (by rw [(hi _ hk).2]; exact hfr) (by rw [hi.all]; exact hf)).mono ?_
        rintro e w' ⟨rfl, hb⟩
        exact FPost.same hr hi hb
      · have e : pput most st bs = ((classN bs.length : Int), ((st (classN bs.length)).cs.length : Int), 0, pupd st (classN bs.length) ⟨(st (classN bs.length)).cs ++ [(bs, true)], (st (classN bs.length)).fr⟩) := by unfold pput; rw [if_neg hl, hg]; dsimp only; rw [if_neg hf]
        rw [e]
        refine (slabPut_new B b most sh v bs w hr hs hv (by omega) _ rfl (by rw [(hi _ hk).2]; exact hfr) (by rw [hi.all]; omega)).mono ?_
        rintro e w' ⟨rfl, cv', v', h1, h2, h3, h4⟩
        refine ⟨by rw [hi.len hk], _, h1, hi.upd ?_ (hi _ hk).2, h2, fp_grow hk (fun g h => h3 g h) (fun g h => .inl h), ValsOk.upd (vals_snoc h4)⟩
        rw [List.map_append, (hi _ hk).1]; rfl

theorem aPut (m B b : Nat) (most : Int) (st : PSt) (v : Value) (bs : List UInt8) (w : World) (h : ARep w B b most st) (hw : PWf m st) (hm : m ≤ 1000) (hv : Bts w B 5 v bs) :
    Calls Try.prog 15 #[.pointer (some ⟨b, 0, none⟩), v] w (APost B b most (.tuple #[.agg #[.int .i64 (pput most st bs).1, .int .i64 (pput most st bs).2.1], .int .i64 (pput most st bs).2.2.1]) (pput most st bs).2.2.2 w) := by
  obtain ⟨sh, hr, hi⟩ := h
  exact (fPut m B b most sh st v bs w hr hi hw hm hv).mono fun e w' h => h.a hr

theorem fFree (m B b : Nat) (most : Int) (sh : Nat → ShV) (st : PSt) (K N : Int) (w : World) (hr : SRep w B b most sh) (hi : SIs sh st) (hw : PWf m st) (hm : m ≤ 1000) :
    Calls Try.prog 16 #[.pointer (some ⟨b, 0, none⟩), .agg #[.int .i64 K, .int .i64 N]] w (FPost B b most sh (.int .i64 (pfree st K N).1) (pfree st K N).2 w) := by
  have hs := hi.small hw hm
  have hh := hi.has K N
  cases hc : hasC sh K N with
  | none =>
    rw [hc] at hh
    have e : pfree st K N = (9, st) := by unfold pfree; rw [← hh]; rfl
    rw [e]
    refine (slabFree_none B b most sh K N w hr hc).mono ?_
    rintro e w' ⟨rfl, hb⟩
    exact FPost.same hr hi hb
  | some c =>
    rw [hc] at hh
    obtain ⟨k, n, rfl, rfl, hk, hcn, hu⟩ := hasC_some hc
    have e : pfree st k n = (0, pupd st k ⟨(st k).cs.set n ([], false), (st k).fr ++ [n]⟩) := by unfold pfree; rw [← hh]; rfl
    rw [e]
    refine (slabFree_ok B b most sh k n c w hr hk hcn hu (by have := hs.fr k hk; have := hs.cs k hk; omega)).mono ?_
    rintro e w' ⟨rfl, fv', h1, h2, h3⟩
    refine ⟨rfl, _, h1, hi.upd ?_ (by rw [(hi k hk).2]), h2, fp_grow hk (fun g h => .inl h) (fun g h => h3 g h), ValsOk.upd (vals_set (fun g h => by cases h))⟩
    rw [List.map_set, (hi k hk).1]; rfl

theorem aFree (m B b : Nat) (most : Int) (st : PSt) (K N : Int) (w : World) (h : ARep w B b most st) (hw : PWf m st) (hm : m ≤ 1000) :
    Calls Try.prog 16 #[.pointer (some ⟨b, 0, none⟩), .agg #[.int .i64 K, .int .i64 N]] w (APost B b most (.int .i64 (pfree st K N).1) (pfree st K N).2 w) := by
  obtain ⟨sh, hr, hi⟩ := h
  exact (fFree m B b most sh st K N w hr hi hw hm).mono fun e w' h => h.a hr

end Go.Proofs.Ytookfhmghchkjaa

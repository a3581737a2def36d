/- What the law EntrylogHolds knows of a world, and its plain facts. -/
import Derived.Test.YtjjhndhigkhkpaaLogK
import Derived.Test.YtjjhndhigkhkpaaActs
namespace Go.Proofs.Ytjjhndhigkhkpaa
open Go Go.RowKit

abbrev HRow := ByteArray × Int × Bool
def kcells (hs : List HRow) : List Value := hs.map fun h => .string h.1
def ucells (hs : List HRow) : List Value := hs.map fun h => .int .u64 h.2.1
def gcells (hs : List HRow) : List Value := hs.map fun h => .bool h.2.2

def Fit (p : Ent × Value) (h : HRow) : Prop := if h.2.2 = true then p.1 = zent else p.1.key = h.1 ∧ p.1.birth = h.2.1 ∧ p.1.birth ≠ 0

structure Fits (ps : List (Ent × Value)) (hs : List HRow) : Prop where
  len : ps.length = hs.length
  fit : ∀ (i : Nat) (p : Ent × Value) (h : HRow), ps[i]? = some p → hs[i]? = some h → Fit p h

def liveH (hs : List HRow) : Nat := (hs.filter fun h => !h.2.2).length

theorem Fits.nil : Fits [] [] := ⟨rfl, fun i p h e => by simp at e⟩

theorem Fits.snoc {ps : List (Ent × Value)} {hs : List HRow} (h : Fits ps hs) (x : Ent) (v : Value) (hx : x.birth ≠ 0) : Fits (ps ++ [(x, v)]) (hs ++ [(x.key, x.birth, false)]) := by
  refine ⟨by simp [h.len], fun i p r hp hr => ?_⟩
  rcases Nat.lt_trichotomy i ps.length with h1 | h1 | h1
  · rw [List.getElem?_append_left h1] at hp
    rw [List.getElem?_append_left (by rw [← h.len]; exact h1)] at hr
    exact h.fit i p r hp hr
  · subst h1
    rw [List.getElem?_append_right (Nat.le_refl _)] at hp
    rw [h.len, List.getElem?_append_right (Nat.le_refl _)] at hr
    simp at hp hr
    subst hp hr
    exact ⟨rfl, rfl, hx⟩
  · rw [List.getElem?_eq_none (by simp; omega)] at hp
    cases hp

theorem Fits.set {ps : List (Ent × Value)} {hs : List HRow} (h : Fits ps hs) {i : Nat} {x y : Ent} {v u : Value} (hp : ps[i]? = some (x, v)) (hb : x.birth ≠ 0) (hk : y.key = x.key) (hy : y.birth = x.birth) : Fits (ps.set i (y, u)) hs := by
  refine ⟨by simp [h.len], fun j p r hp' hr => ?_⟩
  by_cases e : i = j
  · subst e
    obtain ⟨hi, _⟩ := List.getElem?_eq_some_iff.1 hp
    rw [List.getElem?_set_self hi] at hp'
    injection hp' with hp'
    subst hp'
    have := h.fit i _ _ hp hr
    unfold Fit at this ⊢
    split at this
    · rename_i hg
      exfalso
      apply hb
      have e2 : x = zent := this
      rw [e2]; rfl
    · rename_i hg
      rw [if_neg hg]
      exact ⟨by rw [← this.1]; exact hk, by rw [← this.2.1]; exact hy, by rw [show (y, u).1.birth = x.birth from hy]; exact hb⟩
  · rw [List.getElem?_set_ne e] at hp'
    exact h.fit j p r hp' hr

theorem Fits.gone {ps : List (Ent × Value)} {hs : List HRow} (h : Fits ps hs) (i : Nat) (r : HRow) (hr : hs[i]? = some r) : Fits (ps.set i (zent, .slice none 0 0)) (hs.set i (r.1, r.2.1, true)) := by
  obtain ⟨hi, _⟩ := List.getElem?_eq_some_iff.1 hr
  refine ⟨by simp [h.len], fun j p q hp' hq => ?_⟩
  by_cases e : i = j
  · subst e
    rw [List.getElem?_set_self (by rw [h.len]; exact hi)] at hp'
    rw [List.getElem?_set_self hi] at hq
    injection hp' with hp'
    injection hq with hq
    subst hp' hq
    rfl
  · rw [List.getElem?_set_ne e] at hp' hq
    exact h.fit j p q hp' hq

theorem Fits.live {ps : List (Ent × Value)} {hs : List HRow} (h : Fits ps hs) : liveN ps = liveH hs := by
  obtain ⟨hl, hf⟩ := h
  induction ps generalizing hs with
  | nil => cases hs with
    | nil => rfl
    | cons r hs => simp at hl
  | cons p ps ih => cases hs with
    | nil => simp at hl
    | cons r hs =>
      have h1 := ih (hs := hs) (by simpa using hl) (fun i p' h' e1 e2 => hf (i + 1) p' h' (by simpa using e1) (by simpa using e2))
      have h0 := hf 0 p r rfl rfl
      unfold Fit at h0
      unfold liveN liveH at h1 ⊢
      simp only [List.filter_cons]
      by_cases hg : r.2.2 = true
      · rw [if_pos hg] at h0
        simp [h0, zent, hg, h1]
      · rw [if_neg hg] at h0
        simp [h0.2.2, hg, h1]

/-- What the walk knows of a world, the three rows each by itself. -/
structure HBase (w W : World) (lv kv bv gv v : Value) (ls : List ActV) (ps : List (Ent × Value)) (n1 n2 n3 : Nat) (x1 x2 x3 : List Value) : Prop where
  rep : LogRep W w.heap.size w.heap.size lv ps
  keys : W.ownsRow w.heap.size 9 1 kv n1 x1
  births : W.ownsRow w.heap.size 27 1 bv n2 x2
  gone : W.ownsRow w.heap.size 4 1 gv n3 x3
  below : Below w.heap.size w W
  acts : Acts W w.heap.size v ls

structure HInv (w W : World) (lv kv bv gv v : Value) (ls : List ActV) (ps : List (Ent × Value)) (hs : List HRow) : Prop where
  base : HBase w W lv kv bv gv v ls ps hs.length hs.length hs.length (kcells hs) (ucells hs) (gcells hs)
  fit : Fits ps hs
  vl : ∀ p ∈ ps, p.1.val.length ≤ 65536

section
variable {w W W' : World} {lv lv' kv kv' bv bv' gv gv' v : Value} {ls : List ActV} {ps ps' : List (Ent × Value)} {hs : List HRow} {n1 n2 n3 m : Nat} {x1 x2 x3 xs : List Value}

theorem HBase.adv (h : HBase w W lv kv bv gv v ls ps n1 n2 n3 x1 x2 x3) (hb : Below W.heap.size W W') : HBase w W' lv kv bv gv v ls ps n1 n2 n3 x1 x2 x3 := by
  have ho : Only (fun _ => False) W W' := Only.of_below hb
  exact ⟨h.rep.below hb, ownsRow_only h.keys ho (fun _ _ h => h), ownsRow_only h.births ho (fun _ _ h => h), ownsRow_only h.gone ho (fun _ _ h => h), h.below.trans (hb.mono h.below.size), h.acts.below hb⟩

theorem HBase.alloc (h : HBase w W lv kv bv gv v ls ps n1 n2 n3 x1 x2 x3) (o : Obj) : HBase w (W.alloc o) lv kv bv gv v ls ps n1 n2 n3 x1 x2 x3 := h.adv ((Below.refl _ _).alloc (Nat.le_refl _) o)
theorem HBase.drew (h : HBase w W lv kv bv gv v ls ps n1 n2 n3 x1 x2 x3) : HBase w W.drew lv kv bv gv v ls ps n1 n2 n3 x1 x2 x3 := h.adv (Below.refl _ _).drew
theorem HInv.adv (h : HInv w W lv kv bv gv v ls ps hs) (hb : Below W.heap.size W W') : HInv w W' lv kv bv gv v ls ps hs := ⟨h.base.adv hb, h.fit, h.vl⟩
theorem HInv.alloc (h : HInv w W lv kv bv gv v ls ps hs) (o : Obj) : HInv w (W.alloc o) lv kv bv gv v ls ps hs := ⟨h.base.alloc o, h.fit, h.vl⟩

theorem row_apart {B b : Nat} (h : LogRep W B b lv ps) {e : TypeId} {B2 n : Nat} {u : Value} {xs : List Value} (hr : W.ownsRow B2 e 1 u n xs) (h1 : e ≠ 31) (h2 : 62 ≠ e) : ∀ k, u.ownBlock = some k → ¬ logFp b lv k := fun k hk e => by
  obtain ⟨_, cur, hc⟩ := row_block hr hk
  rcases e with e | e
  · subst e
    exact (h.blk.ne_ hc h2) rfl
  · obtain ⟨_, cur2, hc2⟩ := row_block h.row e
    rw [hc] at hc2
    injection hc2 with hc2
    injection hc2 with _ hc2
    exact h1 hc2

theorem rows_apart {B1 B2 n1 n2 : Nat} {s1 s2 : Nat} {e1 e2 : TypeId} {u1 u2 : Value} {x1 x2 : List Value} (h1 : W.ownsRow B1 e1 s1 u1 n1 x1) (h2 : W.ownsRow B2 e2 s2 u2 n2 x2) (he : e1 ≠ e2) : ∀ k, u1.ownBlock = some k → u2.ownBlock ≠ some k := fun k hk e => by
  obtain ⟨_, cur, hc⟩ := row_block h1 hk
  obtain ⟨_, cur2, hc2⟩ := row_block h2 e
  rw [hc] at hc2
  injection hc2 with hc2
  injection hc2 with _ hc2
  exact he hc2

theorem blk_apart {g : Nat} {t : TypeId} {cs : Array Value} (h : Blk W g t cs) {B2 n2 s2 : Nat} {e2 : TypeId} {u2 : Value} {x2 : List Value} (h2 : W.ownsRow B2 e2 s2 u2 n2 x2) (he : t ≠ e2) : some g ≠ u2.ownBlock := fun e => by
  obtain ⟨_, cur2, hc2⟩ := row_block h2 e.symm
  exact (h.ne_ hc2 he) rfl

theorem HBase.next (h : HBase w W lv kv bv gv v ls ps n1 n2 n3 x1 x2 x3) (hr : LogRep W' w.heap.size w.heap.size lv' ps') (ho : Only (logFp w.heap.size lv) W W') : HBase w W' lv' kv bv gv v ls ps' n1 n2 n3 x1 x2 x3 := by
  have hb : Below w.heap.size W W' := ho.below (fun i hi _ e => by have := (h.rep.fp_lt e).1; omega) h.below.size
  exact ⟨hr, ownsRow_only h.keys ho (row_apart h.rep h.keys (by decide) (by decide)), ownsRow_only h.births ho (row_apart h.rep h.births (by decide) (by decide)), ownsRow_only h.gone ho (row_apart h.rep h.gone (by decide) (by decide)), h.below.trans hb, h.acts.kept hb (h.rep.keepB ho)⟩

theorem HInv.next (h : HInv w W lv kv bv gv v ls ps hs) (hr : LogRep W' w.heap.size w.heap.size lv' ps') (ho : Only (logFp w.heap.size lv) W W') (hf : Fits ps' hs) (hv : ∀ p ∈ ps', p.1.val.length ≤ 65536) : HInv w W' lv' kv bv gv v ls ps' hs :=
  ⟨h.base.next hr ho, hf, hv⟩

/-- A row of the walk's own has been written. -/
theorem HBase.rowed (h : HBase w W lv kv bv gv v ls ps n1 n2 n3 x1 x2 x3) {e : TypeId} {u : Value} {n : Nat} {xs : List Value} (hr : W.ownsRow w.heap.size e 1 u n xs) (he1 : e ≠ 31) (he2 : 62 ≠ e) (he3 : e ≠ 5) (hg : Only (fun k => u.ownBlock = some k) W W') :
    LogRep W' w.heap.size w.heap.size lv ps ∧ Below w.heap.size w W' ∧ Acts W' w.heap.size v ls := by
  have hb : Below w.heap.size W W' := hg.below (fun i hi _ e => by have := (row_block hr e).1; omega) h.below.size
  have hk : KeepB w.heap.size 5 W W' := KeepB.of_only hg fun k _ hk => ⟨(row_block hr hk).1, fun c fr e2 => by
    obtain ⟨_, cur, hc⟩ := row_block hr hk
    rw [hc] at e2
    injection e2 with e2
    injection e2 with _ e2
    exact he3 e2⟩
  exact ⟨h.rep.only hg (fun k hk e2 => row_apart h.rep hr he1 he2 k e2 hk) hk, h.below.trans hb, h.acts.kept hb hk⟩

theorem HBase.toKeys (h : HBase w W lv kv bv gv v ls ps n1 n2 n3 x1 x2 x3) (hr : W'.ownsRow w.heap.size 9 1 kv' m xs) (hg : Only (fun k => kv.ownBlock = some k) W W') : HBase w W' lv kv' bv gv v ls ps m n2 n3 xs x2 x3 := by
  obtain ⟨r1, r2, r3⟩ := h.rowed h.keys (by decide) (by decide) (by decide) hg
  exact ⟨r1, hr, ownsRow_only h.births hg (rows_apart h.births h.keys (by decide)), ownsRow_only h.gone hg (rows_apart h.gone h.keys (by decide)), r2, r3⟩
theorem HBase.toBirths (h : HBase w W lv kv bv gv v ls ps n1 n2 n3 x1 x2 x3) (hr : W'.ownsRow w.heap.size 27 1 bv' m xs) (hg : Only (fun k => bv.ownBlock = some k) W W') : HBase w W' lv kv bv' gv v ls ps n1 m n3 x1 xs x3 := by
  obtain ⟨r1, r2, r3⟩ := h.rowed h.births (by decide) (by decide) (by decide) hg
  exact ⟨r1, ownsRow_only h.keys hg (rows_apart h.keys h.births (by decide)), hr, ownsRow_only h.gone hg (rows_apart h.gone h.births (by decide)), r2, r3⟩
theorem HBase.toGone (h : HBase w W lv kv bv gv v ls ps n1 n2 n3 x1 x2 x3) (hr : W'.ownsRow w.heap.size 4 1 gv' m xs) (hg : Only (fun k => gv.ownBlock = some k) W W') : HBase w W' lv kv bv gv' v ls ps n1 n2 m x1 x2 xs := by
  obtain ⟨r1, r2, r3⟩ := h.rowed h.gone (by decide) (by decide) (by decide) hg
  exact ⟨r1, ownsRow_only h.keys hg (rows_apart h.keys h.gone (by decide)), ownsRow_only h.births hg (rows_apart h.births h.gone (by decide)), hr, r2, r3⟩

/-- A slot number's flag has been set, after its entry was removed. -/
theorem HInv.gone1 {g cap i : Nat} {r : HRow} (hb : HBase w W lv kv bv (.slice (some ⟨g, 0, none⟩) hs.length cap) v ls (ps.set i (zent, .slice none 0 0)) hs.length hs.length hs.length (kcells hs) (ucells hs) (gcells hs)) (hf : Fits ps hs) (hr : hs[i]? = some r) (hv : ∀ p ∈ ps, p.1.val.length ≤ 65536) :
    HInv w (W.setCell ⟨g, i, none⟩ (.bool true)) lv kv bv (.slice (some ⟨g, 0, none⟩) hs.length cap) v ls (ps.set i (zent, .slice none 0 0)) (hs.set i (r.1, r.2.1, true)) := by
  obtain ⟨hi, hri⟩ := List.getElem?_eq_some_iff.1 hr
  have hs' := (hb.gone.stored i (.bool true)).1
  have ho : Only (fun k => (Value.slice (some ⟨g, 0, none⟩) hs.length cap).ownBlock = some k) W (W.setCell ⟨g, i, none⟩ (.bool true)) := Only.setCell (a := W) (w := W) (S := fun k => (Value.slice (some ⟨g, 0, none⟩) hs.length cap).ownBlock = some k) (Only.refl _ _) (p := ⟨g, i, none⟩) (.inl rfl) _
  have hb2 := hb.toGone hs' ho
  have e1 : kcells (hs.set i (r.1, r.2.1, true)) = kcells hs := by
    unfold kcells
    rw [List.map_set, ← hri]
    refine List.ext_getElem? fun j => ?_
    by_cases e : i = j
    · subst e
      rw [List.getElem?_set_self (by simpa using hi)]
      simp [hi]
    · rw [List.getElem?_set_ne e]
  have e2 : ucells (hs.set i (r.1, r.2.1, true)) = ucells hs := by
    unfold ucells
    rw [List.map_set, ← hri]
    refine List.ext_getElem? fun j => ?_
    by_cases e : i = j
    · subst e
      rw [List.getElem?_set_self (by simpa using hi)]
      simp [hi]
    · rw [List.getElem?_set_ne e]
  have e3 : gcells (hs.set i (r.1, r.2.1, true)) = (gcells hs).set i (.bool true) := by
    unfold gcells
    rw [List.map_set]
  refine ⟨?_, hf.gone i r hr, fun p hp => ?_⟩
  · rw [List.length_set, e1, e2, e3]
    exact hb2
  · rcases List.mem_or_eq_of_mem_set hp with hp | rfl
    · exact hv p hp
    · exact Nat.zero_le _

theorem HInv.snoc {x : Ent} {u : Value} (hb : HBase w W lv kv bv gv v ls (ps ++ [(x, u)]) (hs.length + 1) (hs.length + 1) (hs.length + 1) (kcells hs ++ [.string x.key]) (ucells hs ++ [.int .u64 x.birth]) (gcells hs ++ [.bool false])) (hf : Fits (ps ++ [(x, u)]) (hs ++ [(x.key, x.birth, false)])) (hv : ∀ p ∈ ps ++ [(x, u)], p.1.val.length ≤ 65536) :
    HInv w W lv kv bv gv v ls (ps ++ [(x, u)]) (hs ++ [(x.key, x.birth, false)]) := by
  refine ⟨?_, hf, hv⟩
  rw [List.length_append, List.length_singleton]
  have e1 : kcells (hs ++ [(x.key, x.birth, false)]) = kcells hs ++ [.string x.key] := by simp [kcells]
  have e2 : ucells (hs ++ [(x.key, x.birth, false)]) = ucells hs ++ [.int .u64 x.birth] := by simp [ucells]
  have e3 : gcells (hs ++ [(x.key, x.birth, false)]) = gcells hs ++ [.bool false] := by simp [gcells]
  rw [e1, e2, e3]
  exact hb

theorem liveH_take {m : Nat} {r : HRow} (hr : hs[m]? = some r) : liveH (hs.take (m + 1)) = liveH (hs.take m) + (if r.2.2 = true then 0 else 1) := by
  rw [List.take_add_one, hr]
  unfold liveH
  rw [List.filter_append, List.length_append]
  cases h : r.2.2 <;> simp [h]

theorem Fits.hasnt {i : Nat} {r : HRow} (h : Fits ps hs) (hr : hs[i]? = some r) (hg : r.2.2 = true) : Hasnt ps i := fun x u hp => by
  have := h.fit i _ r hp hr
  unfold Fit at this
  rw [if_pos hg] at this
  have e : x = zent := this
  rw [e]; rfl

theorem Fits.has {i : Nat} {r : HRow} (h : Fits ps hs) (hr : hs[i]? = some r) (hg : r.2.2 = false) : ∃ val dl u, Has ps i ⟨r.1, val, dl, r.2.1⟩ u := by
  obtain ⟨hi, _⟩ := List.getElem?_eq_some_iff.1 hr
  obtain ⟨p, hp⟩ : ∃ p, ps[i]? = some p := ⟨_, List.getElem?_eq_getElem (by rw [h.len]; exact hi)⟩
  have := h.fit i p r hp hr
  unfold Fit at this
  rw [if_neg (by simp [hg])] at this
  obtain ⟨⟨k, val, dl, b⟩, u⟩ := p
  obtain ⟨rfl, rfl, h3⟩ := this
  exact ⟨val, dl, u, hp, h3⟩

theorem Fits.false_of {i : Nat} {x : Ent} {u : Value} (h : Fits ps hs) (hp : Has ps i x u) : ∃ r, hs[i]? = some r ∧ r.2.2 = false := by
  obtain ⟨r, hr⟩ : ∃ r, hs[i]? = some r := ⟨_, List.getElem?_eq_getElem (by rw [← h.len]; exact hp.lt)⟩
  refine ⟨r, hr, ?_⟩
  have := h.fit i _ r hp.at_ hr
  unfold Fit at this
  split at this
  · have e : x = zent := this
    exact absurd (by rw [e]; rfl) hp.birth
  · rename_i hg
    simpa using hg
end

end Go.Proofs.Ytjjhndhigkhkpaa

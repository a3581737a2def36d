/- An arena of layer 13 in memory: its shelves, their cells and their free numbers. -/
import Derived.Test.YtookfhmghchkjaaBase
import Derived.Deep.AppendLies
import Derived.Laws.OwnMore
namespace Go.Proofs.Ytookfhmghchkjaa
open Go Go.RowKit

structure CelV where
  bs : List UInt8
  v : Value
  used : Bool
def CelV.cells (c : CelV) : List Value := [c.v, .bool c.used]

structure ShV where
  cv : Value
  fv : Value
  cs : List CelV
  fr : List Nat

def ccs (cs : List CelV) : List Value := cs.flatMap CelV.cells
def ics (ns : List Nat) : List Value := ns.map fun n : Nat => .int .i64 (n : Int)
def acells (most : Int) (sh : Nat → ShV) : List Value := .bool true :: .int .i64 most :: (List.range 13).flatMap fun k => [(sh k).cv, (sh k).fv]
def upd (sh : Nat → ShV) (k : Nat) (s : ShV) : Nat → ShV := fun j => if j = k then s else sh j

theorem upd_same (sh : Nat → ShV) (k : Nat) (s : ShV) : upd sh k s k = s := by simp [upd]
theorem upd_other (sh : Nat → ShV) {k j : Nat} (s : ShV) (h : j ≠ k) : upd sh k s j = sh j := by simp [upd, h]

theorem ccs_length (cs : List CelV) : (ccs cs).length = cs.length * 2 := by
  induction cs with
  | nil => rfl
  | cons c cs ih => simp [ccs, CelV.cells] at ih ⊢; omega
theorem ics_length (ns : List Nat) : (ics ns).length = ns.length := by simp [ics]
theorem ccs_append (a b : List CelV) : ccs (a ++ b) = ccs a ++ ccs b := by simp [ccs]
theorem ics_append (a b : List Nat) : ics (a ++ b) = ics a ++ ics b := by simp [ics]

theorem thirteen {k : Nat} (h : k < 13) : k = 0 ∨ k = 1 ∨ k = 2 ∨ k = 3 ∨ k = 4 ∨ k = 5 ∨ k = 6 ∨ k = 7 ∨ k = 8 ∨ k = 9 ∨ k = 10 ∨ k = 11 ∨ k = 12 := by omega

theorem acells_c (most : Int) (sh : Nat → ShV) {k : Nat} (h : k < 13) : (acells most sh).toArray[2 + k * 2]? = some (sh k).cv := by
  rcases thirteen h with rfl | rfl | rfl | rfl | rfl | rfl | rfl | rfl | rfl | rfl | rfl | rfl | rfl <;> rfl
theorem acells_f (most : Int) (sh : Nat → ShV) {k : Nat} (h : k < 13) : (acells most sh).toArray[2 + k * 2 + 1]? = some (sh k).fv := by
  rcases thirteen h with rfl | rfl | rfl | rfl | rfl | rfl | rfl | rfl | rfl | rfl | rfl | rfl | rfl <;> rfl
theorem acells_setc (most : Int) (sh : Nat → ShV) {k : Nat} (h : k < 13) (v : Value) : (acells most sh).toArray.setIfInBounds (2 + k * 2) v = (acells most (upd sh k { sh k with cv := v })).toArray := by
  rcases thirteen h with rfl | rfl | rfl | rfl | rfl | rfl | rfl | rfl | rfl | rfl | rfl | rfl | rfl <;> rfl
theorem acells_setf (most : Int) (sh : Nat → ShV) {k : Nat} (h : k < 13) (v : Value) : (acells most sh).toArray.setIfInBounds (2 + k * 2 + 1) v = (acells most (upd sh k { sh k with fv := v })).toArray := by
  rcases thirteen h with rfl | rfl | rfl | rfl | rfl | rfl | rfl | rfl | rfl | rfl | rfl | rfl | rfl <;> rfl
/-- The block tells the slices alone. -/
theorem acells_same (most : Int) {sh sh' : Nat → ShV} (h : ∀ k, k < 13 → (sh k).cv = (sh' k).cv ∧ (sh k).fv = (sh' k).fv) : acells most sh = acells most sh' := by
  have key : ∀ l : List Nat, (∀ k ∈ l, k < 13) → l.flatMap (fun k => [(sh k).cv, (sh k).fv]) = l.flatMap (fun k => [(sh' k).cv, (sh' k).fv]) := by
    intro l
    induction l with
    | nil => exact fun _ => rfl
    | cons k l ih =>
      intro hl
      rw [List.flatMap_cons, List.flatMap_cons, ih (fun j hj => hl j (List.mem_cons_of_mem _ hj)), (h k (hl k List.mem_cons_self)).1, (h k (hl k List.mem_cons_self)).2]
  unfold acells
  rw [key _ (fun k hk => List.mem_range.1 hk)]

def slabFp (b : Nat) (sh : Nat → ShV) (j : Nat) : Prop := j = b ∨ ∃ i, i < 13 ∧ ((sh i).cv.ownBlock = some j ∨ (sh i).fv.ownBlock = some j)

structure SRep (w : World) (B b : Nat) (most : Int) (sh : Nat → ShV) : Prop where
  blk : Blk w b 65 (acells most sh).toArray
  cells : ∀ k, k < 13 → w.ownsRow B 78 2 (sh k).cv (sh k).cs.length (ccs (sh k).cs)
  free : ∀ k, k < 13 → w.ownsRow B 3 1 (sh k).fv (sh k).fr.length (ics (sh k).fr)
  vals : ∀ k, k < 13 → ∀ c ∈ (sh k).cs, Bts w B 5 c.v c.bs
  apartC : ∀ i j, i < 13 → j < 13 → i ≠ j → ∀ g, (sh i).cv.ownBlock = some g → (sh j).cv.ownBlock ≠ some g
  apartF : ∀ i j, i < 13 → j < 13 → i ≠ j → ∀ g, (sh i).fv.ownBlock = some g → (sh j).fv.ownBlock ≠ some g
  base : B ≤ b

theorem row_blockS {w : World} {base : Nat} {e : TypeId} {size : Nat} {v : Value} {n : Nat} {xs : List Value} (h : w.ownsRow base e size v n xs) {k : Nat} (hk : v.ownBlock = some k) : base ≤ k ∧ ∃ cur, w.heap[k]? = some (.cells cur e (0, 0)) := by
  rcases h.2 with ⟨rfl, _⟩ | ⟨g, cap, cur, rfl, hg, hh, _⟩
  · cases hk
  · cases hk; exact ⟨hg, cur, hh⟩

theorem rows_offS {W : World} {B1 B2 n1 n2 : Nat} {s1 s2 : Nat} {e1 e2 : TypeId} {u1 u2 : Value} {x1 x2 : List Value} (h1 : W.ownsRow B1 e1 s1 u1 n1 x1) (h2 : W.ownsRow B2 e2 s2 u2 n2 x2) (he : e1 ≠ e2) : ∀ k, u1.ownBlock = some k → u2.ownBlock ≠ some k := fun k hk e => by
  obtain ⟨_, cur, hc⟩ := row_blockS h1 hk
  obtain ⟨_, cur2, hc2⟩ := row_blockS h2 e
  rw [hc] at hc2
  injection hc2 with hc2
  injection hc2 with _ hc2
  exact he hc2

section
variable {w w' : World} {B b : Nat} {most : Int} {sh : Nat → ShV}

theorem SRep.fp_lt (h : SRep w B b most sh) {j : Nat} (hj : slabFp b sh j) : B ≤ j ∧ j < w.heap.size := by
  rcases hj with rfl | ⟨i, hi, hj | hj⟩
  · exact ⟨h.base, h.blk.lt⟩
  · obtain ⟨h1, _, h2⟩ := row_blockS (h.cells i hi) hj
    exact ⟨h1, lt_of_heap h2⟩
  · obtain ⟨h1, _, h2⟩ := row_blockS (h.free i hi) hj
    exact ⟨h1, lt_of_heap h2⟩

/-- The types of the arena's own blocks. -/
theorem SRep.fp_type (h : SRep w B b most sh) {j : Nat} (hj : slabFp b sh j) : ∃ cur t, w.heap[j]? = some (.cells cur t (0, 0)) ∧ (t = 65 ∨ t = 78 ∨ t = 3) := by
  rcases hj with rfl | ⟨i, hi, hj | hj⟩
  · exact ⟨_, _, h.blk, .inl rfl⟩
  · obtain ⟨_, cur, h2⟩ := row_blockS (h.cells i hi) hj
    exact ⟨_, _, h2, .inr (.inl rfl)⟩
  · obtain ⟨_, cur, h2⟩ := row_blockS (h.free i hi) hj
    exact ⟨_, _, h2, .inr (.inr rfl)⟩

/-- Slices of bytes stay what they are when an arena's blocks are written. -/
theorem SRep.keepB (h : SRep w B b most sh) (ho : Only (slabFp b sh) w w') : KeepB B 5 w w' :=
  KeepB.of_only ho fun k hk hs => ⟨(h.fp_lt hs).1, fun c fr e => by
    obtain ⟨cur, t, h2, ht⟩ := h.fp_type hs
    rw [h2] at e
    injection e with e
    injection e with _ e
    subst e
    rcases ht with ht | ht | ht <;> exact absurd ht (by decide)⟩

theorem SRep.only {S : Nat → Prop} (h : SRep w B b most sh) (ho : Only S w w') (hS : ∀ k, slabFp b sh k → ¬ S k) (hk : KeepB B 5 w w') : SRep w' B b most sh :=
  ⟨h.blk.only ho (hS b (.inl rfl)), fun k hk => ownsRow_only (h.cells k hk) ho fun j hj => hS j (.inr ⟨k, hk, .inl hj⟩), fun k hk => ownsRow_only (h.free k hk) ho fun j hj => hS j (.inr ⟨k, hk, .inr hj⟩),
    fun k h13 c hc => (h.vals k h13 c hc).keep hk, h.apartC, h.apartF, h.base⟩

theorem SRep.below (h : SRep w B b most sh) (hb : Below w.heap.size w w') : SRep w' B b most sh :=
  h.only (S := fun _ => False) (Only.of_below hb) (fun _ _ h => h) (KeepB.of_below hb)
theorem SRep.alloc (h : SRep w B b most sh) (o : Obj) : SRep (w.alloc o) B b most sh := h.below ((Below.refl _ _).alloc (Nat.le_refl _) o)
theorem SRep.drew (h : SRep w B b most sh) : SRep w.drew B b most sh := h.below (Below.refl _ _).drew

/-- One shelf has turned. -/
theorem SRep.turned {k : Nat} {s : ShV} (h : SRep w B b most sh) (hk : k < 13) (ho : Only (fun j => j = b ∨ (sh k).cv.ownBlock = some j ∨ (sh k).fv.ownBlock = some j) w w') (hblk : Blk w' b 65 (acells most (upd sh k s)).toArray)
    (hc : w'.ownsRow B 78 2 s.cv s.cs.length (ccs s.cs)) (hf : w'.ownsRow B 3 1 s.fv s.fr.length (ics s.fr)) (hv : ∀ c ∈ s.cs, Bts w' B 5 c.v c.bs)
    (hcn : ∀ g, s.cv.ownBlock = some g → (sh k).cv.ownBlock = some g ∨ w.heap.size ≤ g) (hfn : ∀ g, s.fv.ownBlock = some g → (sh k).fv.ownBlock = some g ∨ w.heap.size ≤ g) : SRep w' B b most (upd sh k s) := by
  have ho2 : Only (slabFp b sh) w w' := ho.mono fun i _ hi => by
    rcases hi with hi | hi | hi
    · exact .inl hi
    · exact .inr ⟨k, hk, .inl hi⟩
    · exact .inr ⟨k, hk, .inr hi⟩
  have hkb := h.keepB ho2
  have ltC : ∀ i, i < 13 → ∀ g, (sh i).cv.ownBlock = some g → g < w.heap.size := fun i hi g hg => (h.fp_lt (.inr ⟨i, hi, .inl hg⟩)).2
  have ltF : ∀ i, i < 13 → ∀ g, (sh i).fv.ownBlock = some g → g < w.heap.size := fun i hi g hg => (h.fp_lt (.inr ⟨i, hi, .inr hg⟩)).2
  have hbC : ∀ i, i < 13 → (sh i).cv.ownBlock ≠ some b := fun i hi e => by
    obtain ⟨_, cur, h2⟩ := row_blockS (h.cells i hi) e
    exact (h.blk.ne_ h2 (by decide)) rfl
  have hbF : ∀ i, i < 13 → (sh i).fv.ownBlock ≠ some b := fun i hi e => by
    obtain ⟨_, cur, h2⟩ := row_blockS (h.free i hi) e
    exact (h.blk.ne_ h2 (by decide)) rfl
  refine ⟨hblk, fun i hi => ?_, fun i hi => ?_, fun i hi => ?_, fun i j hi hj hij g hg => ?_, fun i j hi hj hij g hg => ?_, h.base⟩
  · by_cases e : i = k
    · subst e; rw [upd_same]; exact hc
    · rw [upd_other sh s e]
      refine ownsRow_only (h.cells i hi) ho fun g hg hS => ?_
      rcases hS with rfl | hS | hS
      · exact hbC i hi hg
      · exact h.apartC i k hi hk e g hg hS
      · exact rows_offS (h.cells i hi) (h.free k hk) (by decide) g hg hS
  · by_cases e : i = k
    · subst e; rw [upd_same]; exact hf
    · rw [upd_other sh s e]
      refine ownsRow_only (h.free i hi) ho fun g hg hS => ?_
      rcases hS with rfl | hS | hS
      · exact hbF i hi hg
      · exact rows_offS (h.free i hi) (h.cells k hk) (by decide) g hg hS
      · exact h.apartF i k hi hk e g hg hS
  · by_cases e : i = k
    · subst e; rw [upd_same]; exact hv
    · rw [upd_other sh s e]
      exact fun c hc => (h.vals i hi c hc).keep hkb
  · by_cases e : i = k
    · subst e
      rw [upd_same] at hg
      rw [upd_other sh s (Ne.symm hij)]
      intro e2
      rcases hcn g hg with e3 | e3
      · exact h.apartC _ j hi hj hij g e3 e2
      · have := ltC j hj g e2; omega
    · rw [upd_other sh s e] at hg
      by_cases e4 : j = k
      · subst e4
        rw [upd_same]
        intro e2
        rcases hcn g e2 with e3 | e3
        · exact h.apartC i _ hi hj hij g hg e3
        · have := ltC i hi g hg; omega
      · rw [upd_other sh s e4]; exact h.apartC i j hi hj hij g hg
  · by_cases e : i = k
    · subst e
      rw [upd_same] at hg
      rw [upd_other sh s (Ne.symm hij)]
      intro e2
      rcases hfn g hg with e3 | e3
      · exact h.apartF _ j hi hj hij g e3 e2
      · have := ltF j hj g e2; omega
    · rw [upd_other sh s e] at hg
      by_cases e4 : j = k
      · subst e4
        rw [upd_same]
        intro e2
        rcases hfn g e2 with e3 | e3
        · exact h.apartF i _ hi hj hij g hg e3
        · have := ltF i hi g hg; omega
      · rw [upd_other sh s e4]; exact h.apartF i j hi hj hij g hg
end

theorem ccs_at : ∀ (cs : List CelV) {i j : Nat} {c : CelV}, cs[i]? = some c → j < 2 → (ccs cs)[i * 2 + j]? = c.cells[j]?
  | [], i, j, c, h, _ => by simp at h
  | d :: cs, 0, j, c, h, hj => by
    simp at h
    subst h
    have : (ccs (d :: cs)) = d.cells ++ ccs cs := rfl
    rw [this, List.getElem?_append_left (by simp [CelV.cells]; omega)]
    simp
  | d :: cs, i + 1, j, c, h, hj => by
    have e : (ccs (d :: cs)) = d.cells ++ ccs cs := rfl
    have hl : d.cells.length = 2 := rfl
    rw [e, List.getElem?_append_right (by omega), hl, show (i + 1) * 2 + j - 2 = i * 2 + j from by omega]
    exact ccs_at cs (by simpa using h) hj

section
variable {w : World} {B b : Nat} {most : Int} {sh : Nat → ShV}
theorem SRep.cv (h : SRep w B b most sh) {k : Nat} (hk : k < 13) : w.cell? ⟨b, 2 + k * 2, none⟩ = some (sh k).cv := h.blk.cell _ _ (acells_c most sh hk)
theorem SRep.fv (h : SRep w B b most sh) {k : Nat} (hk : k < 13) : w.cell? ⟨b, 2 + k * 2 + 1, none⟩ = some (sh k).fv := h.blk.cell _ _ (acells_f most sh hk)

theorem SRep.at_ (h : SRep w B b most sh) {k : Nat} (hk : k < 13) {j : Nat} {c : CelV} (hc : (sh k).cs[j]? = some c) :
    ∃ g cap, (sh k).cv = .slice (some ⟨g, 0, none⟩) (sh k).cs.length cap ∧ g < w.heap.size ∧ (sh k).cs.length ≤ cap ∧ w.cell? ⟨g, j * 2, none⟩ = some c.v ∧ w.cell? ⟨g, j * 2 + 1, none⟩ = some (.bool c.used) ∧ B ≤ g ∧ ∃ cur, w.heap[g]? = some (.cells cur 78 (0, 0)) := by
  obtain ⟨hj, _⟩ := List.getElem?_eq_some_iff.1 hc
  have hrow := h.cells k hk
  obtain ⟨g, cap, hv, hb, hlt⟩ := hrow.form (by omega)
  have hbl := row_blockS hrow (k := g) (by rw [hv]; rfl)
  obtain ⟨A, c2, e, h1, _⟩ := own_form hrow
  rw [hv] at e hrow
  injection e with _ _ e
  subst e
  refine ⟨g, cap, hv, hlt, h1, ?_, ?_, hbl⟩
  · rw [hrow.cellAt (j * 2) (by omega)]; exact ccs_at _ (j := 0) hc (by omega)
  · rw [hrow.cellAt (j * 2 + 1) (by omega)]; exact ccs_at _ (j := 1) hc (by omega)

theorem SRep.free_at (h : SRep w B b most sh) {k : Nat} (hk : k < 13) {j n : Nat} (hn : (sh k).fr[j]? = some n) :
    ∃ g cap, (sh k).fv = .slice (some ⟨g, 0, none⟩) (sh k).fr.length cap ∧ g < w.heap.size ∧ (sh k).fr.length ≤ cap ∧ w.cell? ⟨g, j, none⟩ = some (.int .i64 (n : Int)) := by
  obtain ⟨hj, _⟩ := List.getElem?_eq_some_iff.1 hn
  have hrow := h.free k hk
  obtain ⟨g, cap, hv, hb, hlt⟩ := hrow.form (by omega)
  obtain ⟨A, c2, e, h1, _⟩ := own_form hrow
  rw [hv] at e hrow
  injection e with _ _ e
  subst e
  refine ⟨g, cap, hv, hlt, h1, ?_⟩
  rw [hrow.cellAt j (by omega)]
  simp [ics, hn]
end

/-! The sums. -/
def sumTo (f : Nat → Nat) : Nat → Nat
  | 0 => 0
  | n + 1 => sumTo f n + f n
def csize (k : Nat) : Nat := 16 * 2 ^ k
def heldL (cs : List CelV) : Nat := (cs.map fun c => c.bs.length).sum
def allN (sh : Nat → ShV) (m : Nat) : Nat := sumTo (fun k => csize k * (sh k).cs.length) m
def usedI (sh : Nat → ShV) (m : Nat) : Nat := sumTo (fun k => csize k * ((sh k).cs.length - (sh k).fr.length)) m
def heldN (sh : Nat → ShV) (m : Nat) : Nat := sumTo (fun k => heldL (sh k).cs) m

theorem heldL_snoc (cs : List CelV) (c : CelV) : heldL (cs ++ [c]) = heldL cs + c.bs.length := by simp [heldL]

theorem csize_le {k : Nat} (h : k < 13) : 16 ≤ csize k ∧ csize k ≤ 65536 := by
  rcases thirteen h with rfl | rfl | rfl | rfl | rfl | rfl | rfl | rfl | rfl | rfl | rfl | rfl | rfl <;> decide

theorem sumTo_le {f g : Nat → Nat} (h : ∀ k, k < 13 → f k ≤ g k) : ∀ m, m ≤ 13 → sumTo f m ≤ sumTo g m
  | 0, _ => Nat.le_refl _
  | m + 1, hm => by
    have h1 := sumTo_le h m (by omega)
    have h2 := h m (by omega)
    simp only [sumTo]; omega
theorem sumTo_const (c : Nat) : ∀ m, sumTo (fun _ => c) m = m * c
  | 0 => by simp [sumTo]
  | m + 1 => by simp only [sumTo, sumTo_const c m]; rw [Nat.succ_mul]
theorem sumTo_bound {f : Nat → Nat} {c : Nat} (h : ∀ k, k < 13 → f k ≤ c) {m : Nat} (hm : m ≤ 13) : sumTo f m ≤ 13 * c := by
  have h1 := sumTo_le (g := fun _ => c) h m hm
  rw [sumTo_const] at h1
  have : m * c ≤ 13 * c := Nat.mul_le_mul_right _ hm
  omega

/-- What no arena of the laws goes beyond. -/
structure SSmall (sh : Nat → ShV) : Prop where
  cs : ∀ k, k < 13 → (sh k).cs.length ≤ 1000
  fr : ∀ k, k < 13 → (sh k).fr.length ≤ (sh k).cs.length
  bs : ∀ k, k < 13 → ∀ c ∈ (sh k).cs, c.bs.length ≤ 65536

theorem allN_bound {sh : Nat → ShV} (h : SSmall sh) {m : Nat} (hm : m ≤ 13) : allN sh m ≤ 13 * 65536000 := by
  refine sumTo_bound (fun k hk => ?_) hm
  have h1 := h.cs k hk
  have h2 := (csize_le hk).2
  calc csize k * (sh k).cs.length ≤ 65536 * 1000 := Nat.mul_le_mul h2 h1
    _ = 65536000 := rfl
theorem usedI_bound {sh : Nat → ShV} (h : SSmall sh) {m : Nat} (hm : m ≤ 13) : usedI sh m ≤ 13 * 65536000 := by
  refine sumTo_bound (fun k hk => ?_) hm
  have h1 := h.cs k hk
  have h2 := (csize_le hk).2
  calc csize k * ((sh k).cs.length - (sh k).fr.length) ≤ 65536 * 1000 := Nat.mul_le_mul h2 (by omega)
    _ = 65536000 := rfl
theorem heldL_bound {cs : List CelV} (h : ∀ c ∈ cs, c.bs.length ≤ 65536) : heldL cs ≤ cs.length * 65536 := by
  induction cs with
  | nil => simp [heldL]
  | cons c cs ih =>
    have h1 := ih (fun c hc => h c (List.mem_cons_of_mem _ hc))
    have h2 := h c List.mem_cons_self
    simp only [heldL, List.map_cons, List.sum_cons, List.length_cons] at h1 ⊢
    rw [Nat.succ_mul]; omega
theorem heldN_bound {sh : Nat → ShV} (h : SSmall sh) {m : Nat} (hm : m ≤ 13) : heldN sh m ≤ 13 * 65536000 := by
  refine sumTo_bound (fun k hk => ?_) hm
  have h1 := heldL_bound (h.bs k hk)
  have h2 := h.cs k hk
  have : (sh k).cs.length * 65536 ≤ 1000 * 65536 := Nat.mul_le_mul_right _ h2
  omega

end Go.Proofs.Ytookfhmghchkjaa

/- The steps of an arena in memory: a cell is set, a cell is added, a number is put among the free ones or taken out. No program in sight. -/
import Derived.Test.YtookfhmghchkjaaSlabC
namespace Go.Proofs.Ytookfhmghchkjaa
open Go Go.RowKit

theorem upd_upd (sh : Nat → ShV) (k : Nat) (s s' : ShV) : upd (upd sh k s) k s' = upd sh k s' := by
  funext j
  by_cases e : j = k <;> simp [upd, e]

theorem src_blockS {w : World} {g size m : Nat} {t : TypeId} {cs : Array Value} {fr : Nat × Nat} (h : w.heap[g]? = some (.cells cs t fr)) (hl : cs.toList.length = m * size) : Src w size (some ⟨g, 0, none⟩) m cs.toList :=
  ⟨hl, (fun h => by cases h), (fun a ha j u hu => by cases ha; exact World.news_of_block h j u hu)⟩

theorem Blk.grown {w w' : World} {g : Nat} {t : TypeId} {cs : Array Value} {row : Option Nat} (h : Blk w g t cs) (hg : w.grownBy w' row) (hn : some g ≠ row) : Blk w' g t cs := h.only (Only.of_grown hg) (fun e => hn e.symm)

theorem ccs_set : ∀ (cs : List CelV) (n : Nat) (c : CelV), n < cs.length → ((ccs cs).set (n * 2) c.v).set (n * 2 + 1) (.bool c.used) = ccs (cs.set n c)
  | [], n, c, h => by simp at h
  | d :: cs, 0, c, _ => by simp [ccs, CelV.cells]
  | d :: cs, n + 1, c, h => by
    have e : ∀ x, (ccs (x :: cs)) = [x.v, .bool x.used] ++ ccs cs := fun _ => rfl
    have e2 : ccs ((d :: cs).set (n + 1) c) = [d.v, .bool d.used] ++ ccs (cs.set n c) := rfl
    rw [e, e2, ← ccs_set cs n c (by simpa using h), show (n + 1) * 2 = n * 2 + 1 + 1 from by omega]
    simp

section
variable {w w' : World} {B b : Nat} {most : Int} {sh : Nat → ShV}

theorem SRep.notC (h : SRep w B b most sh) {k : Nat} (hk : k < 13) : (sh k).cv.ownBlock ≠ some b := fun e => by
  obtain ⟨_, cur, h2⟩ := row_blockS (h.cells k hk) e
  exact (h.blk.ne_ h2 (by decide)) rfl
theorem SRep.notF (h : SRep w B b most sh) {k : Nat} (hk : k < 13) : (sh k).fv.ownBlock ≠ some b := fun e => by
  obtain ⟨_, cur, h2⟩ := row_blockS (h.free k hk) e
  exact (h.blk.ne_ h2 (by decide)) rfl
theorem fp_c {k : Nat} (hk : k < 13) {g : Nat} (h : (sh k).cv.ownBlock = some g) : slabFp b sh g := .inr ⟨k, hk, .inl h⟩
theorem fp_f {k : Nat} (hk : k < 13) {g : Nat} (h : (sh k).fv.ownBlock = some g) : slabFp b sh g := .inr ⟨k, hk, .inr h⟩
theorem upd_self (sh : Nat → ShV) (k : Nat) : upd sh k (sh k) = sh := by funext j; by_cases e : j = k <;> simp [upd, e]

/-- The block tells nothing of a shelf's lists. -/
theorem acells_lists (most : Int) (sh : Nat → ShV) (k : Nat) (cs : List CelV) (fr : List Nat) : acells most (upd sh k ⟨(sh k).cv, (sh k).fv, cs, fr⟩) = acells most sh := by
  refine acells_same most fun j _ => ?_
  by_cases e : j = k
  · subst e; rw [upd_same]; exact ⟨rfl, rfl⟩
  · rw [upd_other sh _ e]; exact ⟨rfl, rfl⟩

/-- A cell is set. -/
theorem SRep.cellset (h : SRep w B b most sh) {k n g cap : Nat} (hk : k < 13) (hcv : (sh k).cv = .slice (some ⟨g, 0, none⟩) (sh k).cs.length cap) (hn : n < (sh k).cs.length) (c : CelV) (hc : Bts w B 5 c.v c.bs) :
    SRep ((w.setCell ⟨g, n * 2, none⟩ c.v).setCell ⟨g, n * 2 + 1, none⟩ (.bool c.used)) B b most (upd sh k ⟨(sh k).cv, (sh k).fv, (sh k).cs.set n c, (sh k).fr⟩) ∧
      Only (fun j => j = g) w ((w.setCell ⟨g, n * 2, none⟩ c.v).setCell ⟨g, n * 2 + 1, none⟩ (.bool c.used)) := by
  have ho : Only (fun j => j = g) w ((w.setCell ⟨g, n * 2, none⟩ c.v).setCell ⟨g, n * 2 + 1, none⟩ (.bool c.used)) := Only.setCell (S := fun j => j = g) (Only.setCell (S := fun j => j = g) (Only.refl _ _) (p := ⟨g, n * 2, none⟩) (.inl rfl) _) (p := ⟨g, n * 2 + 1, none⟩) (.inl rfl) _
  have hown : (sh k).cv.ownBlock = some g := by rw [hcv]; rfl
  have hgb : g ≠ b := fun e => h.notC hk (by rw [hown, e])
  have hrow := h.cells k hk
  rw [hcv] at hrow
  have h2 := ((hrow.stored (n * 2) c.v).1.stored (n * 2 + 1) (.bool c.used)).1
  rw [ccs_set _ _ _ hn] at h2
  have hkb := h.keepB (ho.mono (fun i _ e => by rw [e]; exact fp_c hk hown))
  refine ⟨h.turned hk (ho.mono fun i _ e => .inr (.inl (by rw [e]; exact hown))) ?_ ?_ ?_ ?_ (fun g' e => .inl e) (fun g' e => .inl e), ho⟩
  · rw [acells_lists]
    exact h.blk.only ho (fun e => hgb e.symm)
  · show World.ownsRow _ B _ 2 (sh k).cv ((sh k).cs.set n c).length _
    rw [hcv, List.length_set]
    exact h2
  · exact ownsRow_only (h.free k hk) ho (fun j hj e => by
      subst e
      exact rows_offS (h.free k hk) (h.cells k hk) (by decide) j hj hown)
  · intro d hd
    rcases List.mem_or_eq_of_mem_set hd with hd | rfl
    · exact (h.vals k hk d hd).keep hkb
    · exact hc.keep hkb

/-- The free numbers' slice is another one. -/
theorem SRep.freed {W3 : World} {k : Nat} (h : SRep w B b most sh) (hk : k < 13) (v : Value) (fr : List Nat) (hown : W3.ownsRow B 3 1 v fr.length (ics fr)) (ho : Only (fun j => (sh k).fv.ownBlock = some j) w W3) (hat : ∀ g, v.ownBlock = some g → (sh k).fv.ownBlock = some g ∨ w.heap.size ≤ g) :
    SRep (W3.setCell ⟨b, 2 + k * 2 + 1, none⟩ v) B b most (upd sh k ⟨(sh k).cv, v, (sh k).cs, fr⟩) ∧ Only (fun j => j = b ∨ (sh k).fv.ownBlock = some j) w (W3.setCell ⟨b, 2 + k * 2 + 1, none⟩ v) := by
  have ho2 : Only (fun j => j = b ∨ (sh k).fv.ownBlock = some j) w (W3.setCell ⟨b, 2 + k * 2 + 1, none⟩ v) := (ho.mono (T := fun j => j = b ∨ (sh k).fv.ownBlock = some j) (fun i _ e => .inr e)).setCell (p := ⟨b, 2 + k * 2 + 1, none⟩) (.inl (.inl rfl)) _
  have hb3 : Blk W3 b 65 (acells most sh).toArray := h.blk.only ho (h.notF hk)
  have hvb : v.ownBlock ≠ some b := fun e => by
    obtain ⟨_, cur, h2⟩ := row_blockS hown e
    exact (hb3.ne_ h2 (by decide)) rfl
  have hset : Only (fun j => j = b) W3 (W3.setCell ⟨b, 2 + k * 2 + 1, none⟩ v) := Only.setCell (S := fun j => j = b) (Only.refl _ _) (p := ⟨b, 2 + k * 2 + 1, none⟩) (.inl rfl) _
  refine ⟨h.turned hk (ho2.mono fun i _ e => Or.elim e (fun e => .inl e) (fun e => .inr (.inr e))) ?_ ?_ ?_ ?_ (fun g e => .inl e) hat, ho2⟩
  · have h1 := hb3.set_ (2 + k * 2 + 1) v
    rw [acells_setf most sh hk] at h1
    have e : acells most (upd sh k ⟨(sh k).cv, v, (sh k).cs, fr⟩) = acells most (upd sh k { sh k with fv := v }) := by
      refine acells_same most fun j _ => ?_
      by_cases e : j = k
      · subst e; rw [upd_same, upd_same]; exact ⟨rfl, rfl⟩
      · rw [upd_other sh _ e, upd_other sh _ e]; exact ⟨rfl, rfl⟩
    rw [e]
    exact h1
  · refine ownsRow_only (h.cells k hk) ho2 (fun j hj e => ?_)
    rcases e with e | e
    · subst e; exact h.notC hk hj
    · exact rows_offS (h.cells k hk) (h.free k hk) (by decide) j hj e
  · exact ownsRow_only hown hset (fun j hj e => by subst e; exact hvb hj)
  · exact fun c hc => (h.vals k hk c hc).keep (h.keepB (ho2.mono fun i _ e => Or.elim e (fun e => .inl e) (fun e => fp_f hk e)))

/-- The cells' slice is another one. -/
theorem SRep.celled {W3 : World} {k : Nat} (h : SRep w B b most sh) (hk : k < 13) (v : Value) (cs : List CelV) (hown : W3.ownsRow B 78 2 v cs.length (ccs cs)) (ho : Only (fun j => (sh k).cv.ownBlock = some j) w W3) (hat : ∀ g, v.ownBlock = some g → (sh k).cv.ownBlock = some g ∨ w.heap.size ≤ g) (hv : ∀ c ∈ cs, Bts W3 B 5 c.v c.bs) :
    SRep (W3.setCell ⟨b, 2 + k * 2, none⟩ v) B b most (upd sh k ⟨v, (sh k).fv, cs, (sh k).fr⟩) ∧ Only (fun j => j = b ∨ (sh k).cv.ownBlock = some j) w (W3.setCell ⟨b, 2 + k * 2, none⟩ v) := by
  have ho2 : Only (fun j => j = b ∨ (sh k).cv.ownBlock = some j) w (W3.setCell ⟨b, 2 + k * 2, none⟩ v) := (ho.mono (T := fun j => j = b ∨ (sh k).cv.ownBlock = some j) (fun i _ e => .inr e)).setCell (p := ⟨b, 2 + k * 2, none⟩) (.inl (.inl rfl)) _
  have hb3 : Blk W3 b 65 (acells most sh).toArray := h.blk.only ho (h.notC hk)
  have hvb : v.ownBlock ≠ some b := fun e => by
    obtain ⟨_, cur, h2⟩ := row_blockS hown e
    exact (hb3.ne_ h2 (by decide)) rfl
  have hset : Only (fun j => j = b) W3 (W3.setCell ⟨b, 2 + k * 2, none⟩ v) := Only.setCell (S := fun j => j = b) (Only.refl _ _) (p := ⟨b, 2 + k * 2, none⟩) (.inl rfl) _
  refine ⟨h.turned hk (ho2.mono fun i _ e => Or.elim e (fun e => .inl e) (fun e => .inr (.inl e))) ?_ ?_ ?_ ?_ hat (fun g e => .inl e), ho2⟩
  · have h1 := hb3.set_ (2 + k * 2) v
    rw [acells_setc most sh hk] at h1
    have e : acells most (upd sh k ⟨v, (sh k).fv, cs, (sh k).fr⟩) = acells most (upd sh k { sh k with cv := v }) := by
      refine acells_same most fun j _ => ?_
      by_cases e : j = k
      · subst e; rw [upd_same, upd_same]; exact ⟨rfl, rfl⟩
      · rw [upd_other sh _ e, upd_other sh _ e]; exact ⟨rfl, rfl⟩
    rw [e]
    exact h1
  · exact ownsRow_only hown hset (fun j hj e => by subst e; exact hvb hj)
  · refine ownsRow_only (h.free k hk) ho2 (fun j hj e => ?_)
    rcases e with e | e
    · subst e; exact h.notF hk hj
    · exact rows_offS (h.free k hk) (h.cells k hk) (by decide) j hj e
  · intro c hc
    exact (hv c hc).keep (KeepB.of_only hset fun j _ e => ⟨by subst e; exact h.base, fun cc fr e2 => by
      subst e
      unfold Blk at hb3
      rw [hb3] at e2
      injection e2 with e2
      injection e2 with _ e2
      exact absurd e2 (by decide)⟩)
end

end Go.Proofs.Ytookfhmghchkjaa

/- The log and the reference's log side by side (layer 9): plain facts. -/
import Derived.Test.YtjjhndhigkhkpaaSpoil
import Derived.Test.YtjjhndhigkhkpaaActs
namespace Go.Proofs.Ytjjhndhigkhkpaa
open Go Go.RowKit

def SyncAt (p : Ent × Value) (r : RE) : Prop := if r.gone = true then p.1 = zent else p.1 = r.e ∧ r.e.birth ≠ 0

structure Sync (ps : List (Ent × Value)) (rs : List RE) : Prop where
  len : ps.length = rs.length
  at_ : ∀ (i : Nat) (p : Ent × Value) (r : RE), ps[i]? = some p → rs[i]? = some r → SyncAt p r

theorem Sync.nil : Sync [] [] := ⟨rfl, fun i p r e => by simp at e⟩

theorem Sync.snoc {ps : List (Ent × Value)} {rs : List RE} (h : Sync ps rs) (x : Ent) (v v' : Value) (hx : x.birth ≠ 0) : Sync (ps ++ [(x, v)]) (rs ++ [⟨x, v', false⟩]) := by
  refine ⟨by simp [h.len], fun i p r hp hr => ?_⟩
  rcases Nat.lt_trichotomy i ps.length with h1 | h1 | h1
  · rw [List.getElem?_append_left h1] at hp
    rw [List.getElem?_append_left (by rw [← h.len]; exact h1)] at hr
    exact h.at_ i p r hp hr
  · subst h1
    rw [List.getElem?_append_right (Nat.le_refl _)] at hp
    rw [h.len, List.getElem?_append_right (Nat.le_refl _)] at hr
    simp at hp hr
    subst hp hr
    exact ⟨rfl, hx⟩
  · rw [List.getElem?_eq_none (by simp; omega)] at hp
    cases hp

theorem Sync.alike {ps : List (Ent × Value)} {rs rs' : List RE} (h : Sync ps rs) (ha : Alike rs' rs) : Sync ps rs' := by
  have hl : rs'.length = rs.length := by have := congrArg List.length ha; simpa using this
  refine ⟨by rw [h.len, hl], fun i p r hp hr => ?_⟩
  have := congrArg (·[i]?) ha
  simp only [List.getElem?_map, hr, Option.map_some] at this
  cases hq : rs[i]? with
  | none => rw [hq] at this; simp at this
  | some q =>
    rw [hq] at this
    simp [RE.bare] at this
    have := h.at_ i p q hp hq
    unfold SyncAt at this ⊢
    obtain ⟨e1, e2⟩ := ‹r.e = q.e ∧ r.gone = q.gone›
    rw [e1, e2]
    exact this

theorem Sync.set {ps : List (Ent × Value)} {rs : List RE} (h : Sync ps rs) {i : Nat} {y : Ent} {u v : Value} {g : Bool} (hy : SyncAt (y, u) ⟨y, v, g⟩) : Sync (ps.set i (y, u)) (rs.set i ⟨y, v, g⟩) := by
  refine ⟨by simp [h.len], fun j p r hp hr => ?_⟩
  by_cases e : i = j
  · subst e
    have hi : i < (ps.set i (y, u)).length := (List.getElem?_eq_some_iff.1 hp).1
    rw [List.length_set] at hi
    rw [List.getElem?_set_self hi] at hp
    rw [List.getElem?_set_self (by rw [← h.len]; exact hi)] at hr
    injection hp with hp
    injection hr with hr
    subst hp hr
    exact hy
  · rw [List.getElem?_set_ne e] at hp hr
    exact h.at_ j p r hp hr

theorem Sync.remove {ps : List (Ent × Value)} {rs : List RE} (h : Sync ps rs) (i : Nat) (x : Ent) (u v : Value) : Sync (ps.set i (zent, u)) (rs.set i ⟨x, v, true⟩) := by
  refine ⟨by simp [h.len], fun j p r hp hr => ?_⟩
  by_cases e : i = j
  · subst e
    have hi : i < (ps.set i (zent, u)).length := (List.getElem?_eq_some_iff.1 hp).1
    rw [List.length_set] at hi
    rw [List.getElem?_set_self hi] at hp
    rw [List.getElem?_set_self (by rw [← h.len]; exact hi)] at hr
    injection hp with hp
    injection hr with hr
    subst hp hr
    rfl
  · rw [List.getElem?_set_ne e] at hp hr
    exact h.at_ j p r hp hr

theorem Sync.has {ps : List (Ent × Value)} {rs : List RE} (h : Sync ps rs) {i : Nat} (hr : hasR rs i = true) : ∃ r u, rs[i]? = some r ∧ r.gone = false ∧ Has ps i r.e u := by
  unfold hasR at hr
  cases hq : rs[i]? with
  | none => rw [hq] at hr; cases hr
  | some r =>
    rw [hq] at hr
    have hg : r.gone = false := by simpa using hr
    obtain ⟨hi, _⟩ := List.getElem?_eq_some_iff.1 hq
    obtain ⟨p, hp⟩ : ∃ p, ps[i]? = some p := ⟨_, List.getElem?_eq_getElem (by rw [h.len]; exact hi)⟩
    have := h.at_ i p r hp hq
    unfold SyncAt at this
    rw [if_neg (by simp [hg])] at this
    refine ⟨r, p.2, rfl, hg, ?_, this.2⟩
    rw [hp, ← this.1]

theorem Sync.hasnt {ps : List (Ent × Value)} {rs : List RE} (h : Sync ps rs) {i : Nat} (hr : hasR rs i = false) : Hasnt ps i := fun x u hp => by
  obtain ⟨hi, _⟩ := List.getElem?_eq_some_iff.1 hp
  obtain ⟨r, hq⟩ : ∃ r, rs[i]? = some r := ⟨_, List.getElem?_eq_getElem (by rw [← h.len]; exact hi)⟩
  unfold hasR at hr
  rw [hq] at hr
  have hg : r.gone = true := by simpa using hr
  have := h.at_ i _ r hp hq
  unfold SyncAt at this
  rw [if_pos hg] at this
  have e : x = zent := this
  rw [e]; rfl

theorem Sync.live {ps : List (Ent × Value)} {rs : List RE} (h : Sync ps rs) : liveN ps = liveR rs := by
  obtain ⟨hl, hf⟩ := h
  induction ps generalizing rs with
  | nil => cases rs with
    | nil => rfl
    | cons r rs => simp at hl
  | cons p ps ih => cases rs with
    | nil => simp at hl
    | cons r rs =>
      have h1 := ih (rs := rs) (by simpa using hl) (fun i p' h' e1 e2 => hf (i + 1) p' h' (by simpa using e1) (by simpa using e2))
      have h0 := hf 0 p r rfl rfl
      unfold SyncAt at h0
      unfold liveN liveR at h1 ⊢
      simp only [List.filter_cons]
      by_cases hg : r.gone = true
      · rw [if_pos hg] at h0
        simp [h0, zent, hg, h1]
      · rw [if_neg hg] at h0
        simp [h0.1, h0.2, hg, h1]

theorem Sync.slots {ps : List (Ent × Value)} {rs : List RE} (h : Sync ps rs) : ∀ n, (itemsTo ps n).map (·.1) = slotsR rs n
  | 0 => rfl
  | n + 1 => by
    rw [itemsTo_succ, slotsR_succ, List.map_append, h.slots n]
    congr 1
    cases hr : hasR rs n with
    | true =>
      obtain ⟨r, u, _, _, hp⟩ := h.has hr
      simp [itemAt, hp.at_, hp.birth]
    | false =>
      have hn := h.hasnt hr
      unfold itemAt
      cases hp : ps[n]? with
      | none => rfl
      | some p => simp [hn p.1 p.2 hp]

theorem Sync.vals {w : World} {B : Nat} {lv gv : Value} {ps : List (Ent × Value)} {rs : List RE} (h : Sync ps rs) (hr : RRep w B lv gv rs) : ∀ p ∈ ps, p.1.val.length ≤ 65536 := fun p hp => by
  obtain ⟨i, hi, rfl⟩ := List.getElem_of_mem hp
  have hi' : i < rs.length := by rw [← h.len]; exact hi
  have := h.at_ i _ _ (List.getElem?_eq_getElem hi) (List.getElem?_eq_getElem hi')
  unfold SyncAt at this
  split at this
  · rw [this]; exact Nat.zero_le _
  · rw [this.1]; exact (hr.vals _ (List.getElem_mem _)).2

theorem Bts.only0 {S : Nat → Prop} {w w' : World} {B U : Nat} {v : Value} {bs : List UInt8} (h : Bts w B U v bs) (ho : Only S w w') (hn : 0 < bs.length → ∀ g, v.ownBlock = some g → ¬ S g) : Bts w' B U v bs := by
  by_cases h0 : 0 < bs.length
  · exact h.only ho (hn h0)
  · obtain ⟨A, cap, hv, hl, hm, hnn, hr⟩ := h
    exact ⟨A, cap, hv, hl, hm, hnn, fun h => absurd h h0⟩

/-- A slice of bytes of the caller's own was written. -/
theorem LogRep.spoilt {W W' : World} {B b n base : Nat} {lv v : Value} {ps : List (Ent × Value)} {xs : List Value} (h : LogRep W B b lv ps) (hs : W.ownsRow base 5 1 v n xs) (ho : Only (fun j => v.ownBlock = some j) W W') (hv : ∀ p ∈ ps, 0 < p.1.val.length → ∀ k, p.2.ownBlock = some k → v.ownBlock ≠ some k) : LogRep W' B b lv ps := by
  refine ⟨h.blk.only ho (fun e => ?_), ownsRow_only h.row ho (fun k hk e => rows_off h.row hs (by decide) k hk e), fun p hp => (h.vals p hp).only0 ho (hv p hp), h.base, h.len⟩
  obtain ⟨_, cur, h2⟩ := row_block hs e
  exact (h.blk.ne_ h2 (by decide)) rfl

theorem RRep.spoilt {W W' : World} {B n base : Nat} {lv gv v : Value} {rs : List RE} {xs : List Value} (h : RRep W B lv gv rs) (hs : W.ownsRow base 5 1 v n xs) (ho : Only (fun j => v.ownBlock = some j) W W') (hv : ∀ r ∈ rs, ∀ k, r.v.ownBlock = some k → v.ownBlock ≠ some k) : RRep W' B lv gv rs :=
  h.only ho (fun k hk e => rows_off h.row hs (by decide) k hk e) (fun k hk e => rows_off h.gone hs (by decide) k hk e) hv

theorem LogRep.val_lt {W : World} {B b : Nat} {lv : Value} {ps : List (Ent × Value)} (h : LogRep W B b lv ps) {p : Ent × Value} (hp : p ∈ ps) (h0 : 0 < p.1.val.length) {k : Nat} (hk : p.2.ownBlock = some k) : k < W.heap.size := by
  obtain ⟨A, cap, hv, _, _, _, hr⟩ := h.vals p hp
  obtain ⟨b', off, hA, hb, _⟩ := hr h0
  rw [hv, hA] at hk
  cases hk
  exact hb

/-- A box of the reference's type was written. -/
theorem LogRep.farset {W : World} {B b g i : Nat} {lv u : Value} {cs : Array Value} {ps : List (Ent × Value)} (h : LogRep W B b lv ps) (hx : Blk W g 49 cs) (hB : B ≤ g) : LogRep (W.setCell ⟨g, i, none⟩ u) B b lv ps := by
  have ho : Only (fun k => k = g) W (W.setCell ⟨g, i, none⟩ u) := Only.setCell (S := fun k => k = g) (Only.refl _ _) (p := ⟨g, i, none⟩) (.inl rfl) _
  refine h.only ho (fun k hk e => ?_) (KeepB.of_only ho fun k _ hk => ⟨by omega, fun c fr e => ?_⟩)
  · subst e
    rcases hk with e | hk
    · exact (h.blk.ne_ (e ▸ hx) (by decide)) rfl
    · obtain ⟨_, cur, h2⟩ := row_block h.row hk
      exact (hx.ne_ h2 (by decide)) rfl
  · subst hk
    exact (hx.ne_ e (by decide)) rfl

theorem RRep.farset {W : World} {B g i : Nat} {lv gv u : Value} {cs : Array Value} {rs : List RE} (h : RRep W B lv gv rs) (hx : Blk W g 49 cs) : RRep (W.setCell ⟨g, i, none⟩ u) B lv gv rs := by
  have ho : Only (fun k => k = g) W (W.setCell ⟨g, i, none⟩ u) := Only.setCell (S := fun k => k = g) (Only.refl _ _) (p := ⟨g, i, none⟩) (.inl rfl) _
  have key : ∀ {e : TypeId} {base s m : Nat} {u : Value} {xs : List Value}, W.ownsRow base e s u m xs → 49 ≠ e → ∀ k, u.ownBlock = some k → ¬ k = g := fun hu hne k hk e => by
    subst e
    obtain ⟨_, cur, h2⟩ := row_block hu hk
    exact (hx.ne_ h2 hne) rfl
  exact h.only ho (key h.row (by decide)) (key h.gone (by decide)) (fun r hr => key (h.vals r hr).1 (by decide))

theorem KeepB.after {S : Nat → Prop} {W W1 W2 : World} {B U : Nat} (h : KeepB B U W W1) (ho : Only S W1 W2) (hS : ∀ k, k < W.heap.size → ¬ S k) : KeepB B U W W2 :=
  ⟨Nat.le_trans h.1 ho.size, fun k hk hc => (ho.block k (Nat.lt_of_lt_of_le hk h.1) (hS k hk)).trans (h.2 k hk hc)⟩

/-- Every block below B stays, and so does every block of cells but those of a log and of its entries. -/
def KeepT (B : Nat) (w w' : World) : Prop := ∀ U, ¬ U = 62 → ¬ U = 31 → KeepB B U w w'
theorem KeepT.of_below {B : Nat} {w w' : World} (h : Below w.heap.size w w') : KeepT B w w' := fun _ _ _ => KeepB.of_below h
theorem KeepT.trans {B : Nat} {a b c : World} (h : KeepT B a b) (k : KeepT B b c) : KeepT B a c := fun U h1 h2 => (h U h1 h2).trans (k U h1 h2)
theorem KeepT.after {S : Nat → Prop} {W W1 W2 : World} {B : Nat} (h : KeepT B W W1) (ho : Only S W1 W2) (hS : ∀ k, k < W.heap.size → ¬ S k) : KeepT B W W2 := fun U h1 h2 => (h U h1 h2).after ho hS
theorem KeepT.u8 {B : Nat} {w w' : World} (h : KeepT B w w') : KeepB B 5 w w' := h _ (by decide) (by decide)
theorem KeepT.drew {B : Nat} {w w' : World} (h : KeepT B w w') : KeepT B w w'.drew := h
theorem LogRep.keepT {w w' : World} {B b : Nat} {lv : Value} {ps : List (Ent × Value)} (h : LogRep w B b lv ps) (ho : Only (logFp b lv) w w') : KeepT B w w' := fun U h1 h2 =>
  KeepB.of_only ho fun k hk hs => ⟨(h.fp_lt hs).1, fun c fr e => by
    rcases hs with rfl | hs
    · have := h.blk; unfold Blk at this; rw [this] at e; injection e with e; injection e with _ e; exact h1 e.symm
    · obtain ⟨_, cur, h3⟩ := row_block h.row hs
      rw [h3] at e; injection e with e; injection e with _ e; exact h2 e.symm⟩
/-- A block of another type stays. -/
theorem KeepT.blk {B U k : Nat} {w w' : World} {cs : Array Value} (h : KeepT B w w') (hb : Blk w k U cs) (h1 : ¬ U = 62) (h2 : ¬ U = 31) : Blk w' k U cs :=
  ((h U h1 h2).2 k hb.lt (.inr ⟨_, _, hb⟩)).trans hb

end Go.Proofs.Ytjjhndhigkhkpaa

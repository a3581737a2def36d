/- What a log of layer 9 is in memory, and its plain facts. -/
import Derived.Test.YtjjhndhigkhkpaaEntryC
import Derived.Deep.AppendLies
namespace Go.Proofs.Ytjjhndhigkhkpaa
open Go Go.RowKit

theorem ent_info : (Try.prog.info? 31).map (fun i => (i.zero, i.size, i.bytes)) = some (some (.agg #[.string ⟨#[]⟩, .slice none 0 0, .int .u64 0, .int .u64 0]), 4, 56) := by kernel_rfl

def zent : Ent := ⟨⟨#[]⟩, [], 0, 0⟩
def ecells (p : Ent × Value) : List Value := [.string p.1.key, p.2, .int .u64 p.1.dl, .int .u64 p.1.birth]
def ecs (ps : List (Ent × Value)) : List Value := ps.flatMap ecells

theorem ecs_length (ps : List (Ent × Value)) : (ecs ps).length = ps.length * 4 := by
  induction ps with
  | nil => rfl
  | cons p ps ih =>
    have : (ecs (p :: ps)).length = (ecs ps).length + 4 := by simp [ecs, ecells]
    rw [this, ih, List.length_cons]; omega

theorem ecs_append (ps qs : List (Ent × Value)) : ecs (ps ++ qs) = ecs ps ++ ecs qs := by simp [ecs]

theorem ecs_at : ∀ (ps : List (Ent × Value)) (i j : Nat) (hi : i < ps.length), j < 4 → (ecs ps)[i * 4 + j]? = (ecells ps[i])[j]?
  | p :: ps, 0, j, _, hj => by
    have : ecs (p :: ps) = ecells p ++ ecs ps := rfl
    rw [this, List.getElem?_append_left (by simp [ecells]; omega)]
    simp
  | p :: ps, i + 1, j, hi, hj => by
    have : ecs (p :: ps) = ecells p ++ ecs ps := rfl
    rw [this, List.getElem?_append_right (by simp [ecells]; omega)]
    have e : (i + 1) * 4 + j - (ecells p).length = i * 4 + j := by simp [ecells]; omega
    rw [e, ecs_at ps i j (by simpa using hi) hj]
    simp

theorem ecs_set : ∀ (ps : List (Ent × Value)) (i j : Nat) (p : Ent × Value) (u : Value) (hi : i < ps.length), j < 4 → ecells p = (ecells ps[i]).set j u → (ecs ps).set (i * 4 + j) u = ecs (ps.set i p)
  | q :: ps, 0, j, p, u, _, hj, h => by
    have : ecs (q :: ps) = ecells q ++ ecs ps := rfl
    rw [this, List.set_append_left _ _ (by simp [ecells]; omega)]
    simp only [List.getElem_cons_zero] at h
    simp only [Nat.zero_mul, Nat.zero_add]
    rw [← h]
    rfl
  | q :: ps, i + 1, j, p, u, hi, hj, h => by
    have : ecs (q :: ps) = ecells q ++ ecs ps := rfl
    rw [this, List.set_append_right _ _ (by simp [ecells]; omega)]
    have e : (i + 1) * 4 + j - (ecells q).length = i * 4 + j := by simp [ecells]; omega
    rw [e, ecs_set ps i j p u (by simpa using hi) hj (by simpa using h)]
    rfl

theorem ecells_one (ps : List (Ent × Value)) (h : ∀ p ∈ ps, ∃ A n c, p.2 = .slice A n c) : ∀ u ∈ ecs ps, u.oneCell' = true := by
  intro u hu
  simp only [ecs, List.mem_flatMap] at hu
  obtain ⟨p, hp, hu⟩ := hu
  obtain ⟨A, n, c, e⟩ := h p hp
  simp only [ecells, e, List.mem_cons, List.not_mem_nil, or_false] at hu
  rcases hu with rfl | rfl | rfl | rfl <;> rfl

/-- How many entries there are. -/
def liveN (ps : List (Ent × Value)) : Nat := (ps.filter fun p => p.1.birth != 0).length

theorem liveN_le (ps : List (Ent × Value)) : liveN ps ≤ ps.length := List.length_filter_le _ _

theorem liveN_snoc (ps : List (Ent × Value)) (p : Ent × Value) (h : p.1.birth ≠ 0) : liveN (ps ++ [p]) = liveN ps + 1 := by
  simp [liveN, List.filter_append, h]

/-- A log: block b, whose entries lie in the row 'lv'. -/
structure LogRep (w : World) (B b : Nat) (lv : Value) (ps : List (Ent × Value)) : Prop where
  blk : Blk w b 62 #[.bool true, lv, .int .i64 (liveN ps : Int)]
  row : w.ownsRow B 31 4 lv ps.length (ecs ps)
  vals : ∀ p ∈ ps, Bts w B 5 p.2 p.1.val
  base : B ≤ b
  len : ps.length ≤ 4194304

theorem src_block {w : World} {g size m : Nat} {t : TypeId} {cs : Array Value} {fr : Nat × Nat} (h : w.heap[g]? = some (.cells cs t fr)) (hl : cs.toList.length = m * size) : Src w size (some ⟨g, 0, none⟩) m cs.toList :=
  ⟨hl, (fun h => by cases h), (fun a ha j u hu => by cases ha; exact World.news_of_block h j u hu)⟩

/-- The blocks that a log's methods may write. -/
def logFp (b : Nat) (lv : Value) (k : Nat) : Prop := k = b ∨ lv.ownBlock = some k

theorem row_block {w : World} {base : Nat} {e : TypeId} {size : Nat} {v : Value} {n : Nat} {xs : List Value} (h : w.ownsRow base e size v n xs) {k : Nat} (hk : v.ownBlock = some k) : base ≤ k ∧ ∃ cur, w.heap[k]? = some (.cells cur e (0, 0)) := by
  rcases h.2 with ⟨rfl, _⟩ | ⟨g, cap, cur, rfl, hg, hh, _⟩
  · cases hk
  · cases hk; exact ⟨hg, cur, hh⟩

theorem LogRep.fp_lt {w : World} {B b : Nat} {lv : Value} {ps : List (Ent × Value)} (h : LogRep w B b lv ps) {k : Nat} (hk : logFp b lv k) : B ≤ k ∧ k < w.heap.size := by
  rcases hk with rfl | hk
  · exact ⟨h.base, h.blk.lt⟩
  · obtain ⟨h1, cur, h2⟩ := row_block h.row hk
    exact ⟨h1, lt_of_heap h2⟩

/-- Slices of bytes stay what they are when a log's blocks are written. -/
theorem LogRep.keepB {w w' : World} {B b : Nat} {lv : Value} {ps : List (Ent × Value)} (h : LogRep w B b lv ps) (ho : Only (logFp b lv) w w') : KeepB B 5 w w' :=
  KeepB.of_only ho fun k hk hs => ⟨(h.fp_lt hs).1, fun c fr e => by
    rcases hs with rfl | hs
    · have := h.blk; unfold Blk at this; rw [this] at e; injection e with e; injection e with _ e; exact absurd e (by decide)
    · obtain ⟨_, cur, h2⟩ := row_block h.row hs
      rw [h2] at e; injection e with e; injection e with _ e; exact absurd e (by decide)⟩

/-- A log stays what it is where other blocks are written, and no block of bytes. -/
theorem LogRep.only {S : Nat → Prop} {w w' : World} {B b : Nat} {lv : Value} {ps : List (Ent × Value)} (h : LogRep w B b lv ps) (ho : Only S w w') (hS : ∀ k, logFp b lv k → ¬ S k) (hk : KeepB B 5 w w') : LogRep w' B b lv ps :=
  ⟨h.blk.only ho (hS b (.inl rfl)), ownsRow_only h.row ho fun k hk => hS k (.inr hk), fun p hp => (h.vals p hp).keep hk, h.base, h.len⟩

theorem LogRep.below {w w' : World} {B b : Nat} {lv : Value} {ps : List (Ent × Value)} (h : LogRep w B b lv ps) (hb : Below w.heap.size w w') : LogRep w' B b lv ps :=
  h.only (S := fun _ => False) (Only.of_below hb) (fun _ _ h => h) (KeepB.of_below hb)

theorem LogRep.alloc {w : World} {B b : Nat} {lv : Value} {ps : List (Ent × Value)} (h : LogRep w B b lv ps) (o : Obj) : LogRep (w.alloc o) B b lv ps := h.below ((Below.refl _ _).alloc (Nat.le_refl _) o)

end Go.Proofs.Ytjjhndhigkhkpaa

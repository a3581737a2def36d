/- Phase, Take, Clone, ScrM, ScrA, ScrB, ScrC, ScrD -/
import Derived.Test.YtbcigelgggimmaaGreatDoorMw6
import Derived.Deep.RegionHeld3
import Derived.StillTail
import Derived.Test.YtbcigelgggimmaaGreatDoorRows
import Derived.BigQuiet
import Derived.Deep.QuietTactic
import Derived.Deep.RegionLaw
import Derived.RegionTactic
import Derived.Laws.BitsAllLaws
import Derived.Lib.Slices
import Derived.Laws.CopyOwn
import Derived.Deep.RegionHeldLaw
import Derived.Deep.OwnRows
import Derived.LoopTactic
import Derived.Deep.DrawnRows
import Derived.Deep.AppendLies
import Derived.Lib.AppendStr
import Derived.LoopN
import Derived.Laws.OwnMore
import Derived.Deep.DeepCutAuto
import Derived.Laws.EntriesVeiled
namespace Go.Proofs.YtbcigelgggimmaaGreatDoor
open Go Go.RowKit
section
variable {P : Program} {ops : Array Oper} {Q : Exit → Act → World → Prop} {md : Region.Mode} {q : List Nat} {R S : World → Prop}
/-- None of the operations q has come up. -/
def Unstored (q : List Nat) (listed : Array Bool) : Prop := ∀ s ∈ q, listed.getD s true = false
/-- S holds, and as long as none of them has come up, R holds. -/
def Till (q : List Nat) (R S : World → Prop) (listed : Array Bool) (w : World) : Prop := S w ∧ (Unstored q listed → R w)
theorem Till.of {listed : Array Bool} {w : World} (hs : S w) (h : R w) : Till q R S listed w := ⟨hs, fun _ => h⟩
theorem Till.stored {listed : Array Bool} {w : World} (hs : S w) (h : q.any (fun s => listed.getD s true) = true) : Till q R S listed w := ⟨hs, fun hu => by
  obtain ⟨s, hm, hl⟩ := List.any_eq_true.1 h
  rw [hu s hm] at hl
  cases hl⟩
theorem Unstored.set {listed : Array Bool} {j : Nat} (h : Unstored q listed) (hj : j ∉ q) : Unstored q (listed.setIfInBounds j true) := fun s hs => by
  rw [getD_set_ne true (fun e => hj (by rw [e]; exact hs))]; exact h s hs
theorem Unstored.back {listed : Array Bool} {j : Nat} (h : Unstored q (listed.setIfInBounds j true)) (hj : j ∉ q) : Unstored q listed := fun s hs => by
  have := h s hs
  rwa [getD_set_ne true (fun e => hj (by rw [e]; exact hs))] at this
/-- Whatever order is picked from here on; behind each operation R holds as long as it is wanted. -/
def wpTill (P : Program) (md : Region.Mode) (ops : Array Oper) (Q : Exit → Act → World → Prop) (q : List Nat) (R S : World → Prop) : Nat → Array Bool → Act → World → Prop
  | 0, listed, a, w => Region.ready md ops listed = [] ∧ Q .normal a w
  | n + 1, listed, a, w => (Region.ready md ops listed = [] → Q .normal a w) ∧
    ∀ j ∈ Region.ready md ops listed, wpOp P ops Q j (fun b x => Till q R S (listed.setIfInBounds j true) x ∧ wpTill P md ops Q q R S n (listed.setIfInBounds j true) b x) a w
theorem wpTill.any : ∀ (n : Nat) {listed : Array Bool} {a : Act} {w : World}, wpTill P md ops Q q R S n listed a w → wpAny P md ops Q n listed a w
  | 0, _, _, _, h => h
  | n + 1, _, _, _, h => ⟨h.1, fun j hj => wpOp_mono (fun _ _ k => wpTill.any n k.2) (h.2 j hj)⟩
/-- The operation i, none of q, may be taken first: it yields v in every world that meets T, and T is there as long as i has not come up (I says why). -/
theorem wpTill.first {i : Nat} {o : Oper} {v : Value} {T : World → Prop} {I : Array Bool → Prop} (ho : ops[i]? = some o) (hiq : i ∉ q) (hsel : Region.noSelect ops = true)
    (hT : ∀ listed w, I listed → Till q R S listed w → T w) (hI : ∀ listed j, I listed → listed.getD i true = false → j ∈ Region.ready md ops listed → j ≠ i → I (listed.setIfInBounds j true))
    (hQ : ∀ c a w, Q (.panic c) (a.put o.dst v) w → Q (.panic c) a w) (n : Nat) :
    ∀ {listed : Array Bool} {a : Act} {w : World},
      (∀ j oj, ops[j]? = some oj → j ≠ i → listed.getD j true = false → (∀ e ∈ oj.after, Region.binds md e = true → e.on ≠ i) → o.apart ops oj = true) →
      i ∈ Region.ready md ops listed → I listed → YieldsIf P ops T o v a → Till q R S listed w →
      wpTill P md ops Q q R S n (listed.setIfInBounds i true) (a.put o.dst v) w → wpTill P md ops Q q R S (n + 1) listed a w := by
  have done : ∀ {m : Nat} {listed : Array Bool} {a : Act} {w : World}, I listed → YieldsIf P ops T o v a → Till q R S listed w →
      wpTill P md ops Q q R S m (listed.setIfInBounds i true) (a.put o.dst v) w →
      wpOp P ops Q i (fun b x => Till q R S (listed.setIfInBounds i true) x ∧ wpTill P md ops Q q R S m (listed.setIfInBounds i true) b x) a w :=
    fun hl hy hR H => hy.wpOp ho (hT _ _ hl hR) ⟨⟨hR.1, fun hu => hR.2 (hu.back hiq)⟩, H⟩
  induction n with
  | zero =>
    intro listed a w _ hr hl hy hR H
    refine ⟨fun e => by rw [e] at hr; exact absurd hr List.not_mem_nil, fun j hj => ?_⟩
    by_cases e : j = i
    · subst e; exact done hl hy hR H
    · have h2 := ready_mono hj e
      rw [H.1] at h2
      exact absurd h2 List.not_mem_nil
  | succ n ih =>
    intro listed a w hfree hr hl hy hR H
    refine ⟨fun e => by rw [e] at hr; exact absurd hr List.not_mem_nil, fun j hj => ?_⟩
    by_cases e : j = i
    · subst e; exact done hl hy hR H
    · obtain ⟨hun, oj, hoj, hall⟩ := mem_ready.1 hj
      have hiun := (mem_ready.1 hr).1
      have hno : ∀ x ∈ oj.after, Region.binds md x = true → x.on ≠ i := fun x hx hb hon => by
        have h1 := hall x hx hb
        rw [hon, getD_both hiun] at h1
        cases h1
      have hs := Region.noSelect_spec hsel
      refine wpOp_mono ?_ (wpOp_putIf hoj (hfree j oj hoj e hun hno) (fun cs b => hs i o cs b ho) (fun cs b => hs j oj cs b hoj) hQ hy (H.2 j (ready_mono hj e)))
      rintro b x ⟨hyb, hRx, hH⟩
      have hcomm : (listed.setIfInBounds i true).setIfInBounds j true = (listed.setIfInBounds j true).setIfInBounds i true := Array.setIfInBounds_comm _ _ (fun h => e h.symm)
      rw [hcomm] at hRx hH
      have hRj : Till q R S (listed.setIfInBounds j true) x := ⟨hRx.1, fun hu => hRx.2 (hu.set hiq)⟩
      refine ⟨hRj, ih ?_ (ready_mono hr (fun h => e h.symm)) (hI _ _ hl hiun hj e) hyb hRj hH⟩
      intro k ok hk hki hku hkn
      refine hfree k ok hk hki ?_ hkn
      by_cases hjk : j = k
      · subst hjk; exact hun
      · rwa [getD_set_ne true hjk] at hku
/-- Take number i first: all of q wait for it. -/
theorem wpTill.take {i : Nat} {o : Oper} {v : Value} {n : Nat} {listed : Array Bool} {a : Act} {w : World} (ho : ops[i]? = some o) (hsel : Region.noSelect ops = true) (hf : Region.free md ops listed i = true)
    (hr : (Region.ready md ops listed).contains i = true) (hq : (q.all fun s => !(s == i) && Region.waitsFor md ops s i && !listed.getD s true) = true)
    (hQ : ∀ c a w, Q (.panic c) (a.put o.dst v) w → Q (.panic c) a w) (hy : YieldsIf P ops (fun w => S w ∧ R w) o v a) (hR : Till q R S listed w)
    (h : Till q R S (listed.setIfInBounds i true) w → wpTill P md ops Q q R S n (listed.setIfInBounds i true) (a.put o.dst v) w) : wpTill P md ops Q q R S (n + 1) listed a w := by
  have hall := List.all_eq_true.1 hq
  have hiq : i ∉ q := fun hm => by have := hall i hm; simp at this
  refine wpTill.first (I := Unstored q) (T := fun w => S w ∧ R w) ho hiq hsel (fun _ _ hu ht => ⟨ht.1, ht.2 hu⟩) ?_ hQ n (Region.free_spec ho hf) (by simpa using hr) (fun s hs => ?_) hy hR (h ⟨hR.1, fun hu => hR.2 (hu.back hiq)⟩)
  · intro l j hl hiu hj hne
    refine hl.set fun hjq => ?_
    have hw := hall j hjq
    simp only [Bool.and_eq_true] at hw
    obtain ⟨oj, hoj, e, he, hb, hon⟩ := Region.waitsFor_spec hw.1.2
    obtain ⟨_, o2, ho2, h2⟩ := mem_ready.1 hj
    have : oj = o2 := Option.some.inj (hoj.symm.trans ho2)
    subst this
    have h3 := h2 e he hb
    rw [hon, getD_both hiu] at h3
    cases h3
  · have hw := hall s hs
    simp only [Bool.and_eq_true, Bool.not_eq_true'] at hw
    exact hw.2
/-- Take number i first, which yields v in every world that meets S. -/
theorem wpTill.takeAny {i : Nat} {o : Oper} {v : Value} {n : Nat} {listed : Array Bool} {a : Act} {w : World} (ho : ops[i]? = some o) (hsel : Region.noSelect ops = true) (hf : Region.free md ops listed i = true)
    (hr : (Region.ready md ops listed).contains i = true) (hq : (q.all fun s => !(s == i)) = true)
    (hQ : ∀ c a w, Q (.panic c) (a.put o.dst v) w → Q (.panic c) a w) (hy : YieldsIf P ops S o v a) (hR : Till q R S listed w)
    (h : Till q R S (listed.setIfInBounds i true) w → wpTill P md ops Q q R S n (listed.setIfInBounds i true) (a.put o.dst v) w) : wpTill P md ops Q q R S (n + 1) listed a w := by
  have hall := List.all_eq_true.1 hq
  have hiq : i ∉ q := fun hm => by have := hall i hm; simp at this
  exact wpTill.first (I := fun _ => True) (T := S) ho hiq hsel (fun _ _ _ ht => ht.1) (fun _ _ _ _ _ _ => trivial) hQ n (Region.free_spec ho hf) (by simpa using hr) trivial hy hR (h ⟨hR.1, fun hu => hR.2 (hu.back hiq)⟩)
/-- Number i is the only one that may come up. -/
theorem wpTill.only {i : Nat} {o : Oper} {n : Nat} {listed : Array Bool} {a : Act} {w : World} (hr : Region.ready md ops listed = [i]) (ho : ops[i]? = some o)
    (h : ∀ K : Act → World → Prop, Hid (∀ a w, Till q R S (listed.setIfInBounds i true) w → (Till q R S (listed.setIfInBounds i true) w → wpTill P md ops Q q R S n (listed.setIfInBounds i true) a w) → K a w) →
      if Region.wanted o (yielded ops a.tmps) = true then Oper.wp P o a w K Q else K (a.put o.dst undef) w) : wpTill P md ops Q q R S (n + 1) listed a w := by
  refine ⟨fun e => absurd (hr.symm.trans e) (List.cons_ne_nil _ _), fun j hj => ?_⟩
  rw [hr] at hj
  have e := List.mem_singleton.1 hj
  subst e
  exact wpOp_step ho (fun K hK => h K (Lib.hid (fun a w hT hW => hK a w ⟨hT, hW hT⟩)))
/-- Numbers i and j are those that may come up. -/
theorem wpTill.two {i j : Nat} {o o2 : Oper} {n : Nat} {listed : Array Bool} {a : Act} {w : World} (hr : Region.ready md ops listed = [i, j]) (ho : ops[i]? = some o) (ho2 : ops[j]? = some o2)
    (h : ∀ K : Act → World → Prop, Hid (∀ a w, Till q R S (listed.setIfInBounds i true) w → (Till q R S (listed.setIfInBounds i true) w → wpTill P md ops Q q R S n (listed.setIfInBounds i true) a w) → K a w) →
      if Region.wanted o (yielded ops a.tmps) = true then Oper.wp P o a w K Q else K (a.put o.dst undef) w)
    (h2 : ∀ K : Act → World → Prop, Hid (∀ a w, Till q R S (listed.setIfInBounds j true) w → (Till q R S (listed.setIfInBounds j true) w → wpTill P md ops Q q R S n (listed.setIfInBounds j true) a w) → K a w) →
      if Region.wanted o2 (yielded ops a.tmps) = true then Oper.wp P o2 a w K Q else K (a.put o2.dst undef) w) : wpTill P md ops Q q R S (n + 1) listed a w := by
  refine ⟨fun e => absurd (hr.symm.trans e) (List.cons_ne_nil _ _), fun k hk => ?_⟩
  rw [hr] at hk
  rcases List.mem_cons.1 hk with e | hk
  · subst e
    exact wpOp_step ho (fun K hK => h K (Lib.hid (fun a w hT hW => hK a w ⟨hT, hW hT⟩)))
  · have e := List.mem_singleton.1 hk
    subst e
    exact wpOp_step ho2 (fun K hK => h2 K (Lib.hid (fun a w hT hW => hK a w ⟨hT, hW hT⟩)))
theorem wpTill.done {n : Nat} {listed : Array Bool} {a : Act} {w : World} (hr : Region.ready md ops listed = []) (h : Q .normal a w) : wpTill P md ops Q q R S n listed a w := by
  cases n with
  | zero => exact ⟨hr, h⟩
  | succ n => exact ⟨fun _ => h, by rw [hr]; simp⟩
theorem wp_region_till {id : Nat} {a : Act} {w : World} (q : List Nat) (R S : World → Prop) (hm : P.follows .mixedOrders = true) (hS : S w.drew) (hR : R w.drew)
    (h : Till q R S (Array.replicate ops.size false) w.drew → wpTill P .any ops Q q R S ops.size (Array.replicate ops.size false) a w.drew) : (Code.region id ops true).wp P Q a w :=
  wp_region_any hm ((h (Till.of hS hR)).any)
end
end Go.Proofs.YtbcigelgggimmaaGreatDoor
namespace Go.Proofs.YtbcigelgggimmaaGreatDoor
open Go Go.RowKit
/-- A slot is another. -/
def zS (l : List Value) (o : Option Tmp) (v : Value) : List Value := match o with | some d => l.set d v | none => l
theorem zA {α : Type} (l : List α) (i : Nat) (a : α) : l.toArray.setIfInBounds i a = (l.set i a).toArray := List.setIfInBounds_toArray _ _ _
theorem zB {α : Type} (x y : α) (xs : List α) : List.set (x :: xs) 0 y = y :: xs := rfl
theorem zC {α : Type} (x y : α) (xs : List α) (n : Nat) : List.set (x :: xs) (n + 1) y = x :: xs.set n y := rfl
theorem zP (l : List Value) (df : List Deferred) (o : Option Tmp) (v : Value) : Act.put ⟨l.toArray, df⟩ o v = ⟨(zS l o v).toArray, df⟩ := by
  cases o with
  | none => rfl
  | some d => simp only [Act.put, zS, zA]
/-- Beside a proposition, which operations come next. -/
def Pl (_is : List Nat) (p : Prop) : Prop := p
theorem Pl.go (is : List Nat) {p : Prop} (h : Pl is p) : p := h
theorem Pl.stop {p : Prop} (h : p) : Pl [] p := h
/-- Operation i may be taken. -/
def okI (md : Region.Mode) (ops : Array Oper) (listed : Array Bool) (i : Nat) : Bool := Region.noSelect ops && Region.free md ops listed i && (Region.ready md ops listed).contains i
theorem okI.of {md : Region.Mode} {ops : Array Oper} {listed : Array Bool} {i : Nat} (h : okI md ops listed i = true) : Region.noSelect ops = true ∧ Region.free md ops listed i = true ∧ (Region.ready md ops listed).contains i = true := by
  unfold okI at h
  rw [Bool.and_eq_true, Bool.and_eq_true] at h
  exact ⟨h.1.1, h.1.2, h.2⟩
section
variable {P : Program} {ops : Array Oper} {Q : Exit → Act → World → Prop} {md : Region.Mode} {S : World → Prop} {o1 : _} {o2 : _} {o3 : _} {o4 : _} {o5 : _} {o6 : _} {v : Value} {fuel : Nat} {listed : Array Bool} {l : List Value} {df : List Deferred} {w : World}
/-- Operation i is taken. -/
theorem tk (i : Nat) (hy : ∀ w, S w → (execOp (Act.eval ⟨l.toArray, df⟩) ⟨o1, o2, o3, o4, o5, o6⟩).run P w = .ok (.value v) w) (h : wpAnyH P md ops Q S fuel (listed.setIfInBounds i true) ⟨(zS l o1 v).toArray, df⟩ w)
    (hc : okI md ops listed i = true := by kernel_rfl) (ho : ops[i]? = some ⟨o1, o2, o3, o4, o5, o6⟩ := by rfl) (hw : Region.wanted ⟨o1, o2, o3, o4, o5, o6⟩ (yielded ops l.toArray) = true := by rfl)
    (hQ : ∀ c a a' w, Q (.panic c) a' w → Q (.panic c) a w := by exact fun _ _ _ _ h => h) (hS : S w := by assumption) : wpAnyH P md ops Q S (fuel + 1) listed ⟨l.toArray, df⟩ w :=
  wpAnyH_take ho (okI.of hc).1 (okI.of hc).2.1 (okI.of hc).2.2 (fun c b w => hQ c b _ w) (.inl ⟨hw, hy⟩) hS (by rw [zP]; exact h)
/-- Operation i is left out. -/
theorem sk (i : Nat) (h : wpAnyH P md ops Q S fuel (listed.setIfInBounds i true) ⟨(zS l o1 undef).toArray, df⟩ w)
    (hc : okI md ops listed i = true := by kernel_rfl) (ho : ops[i]? = some ⟨o1, o2, o3, o4, o5, o6⟩ := by rfl) (hw : Region.wanted ⟨o1, o2, o3, o4, o5, o6⟩ (yielded ops l.toArray) = false := by rfl)
    (hQ : ∀ c a a' w, Q (.panic c) a' w → Q (.panic c) a w := by exact fun _ _ _ _ h => h) (hS : S w := by assumption) : wpAnyH P md ops Q S (fuel + 1) listed ⟨l.toArray, df⟩ w :=
  wpAnyH_take ho (okI.of hc).1 (okI.of hc).2.1 (okI.of hc).2.2 (fun c b w => hQ c b _ w) (.inr ⟨hw, rfl⟩) hS (by rw [zP]; exact h)
theorem tkl {i : Nat} {is : List Nat} (hy : ∀ w, S w → (execOp (Act.eval ⟨l.toArray, df⟩) ⟨o1, o2, o3, o4, o5, o6⟩).run P w = .ok (.value v) w) (h : Pl is (wpAnyH P md ops Q S fuel (listed.setIfInBounds i true) ⟨(zS l o1 v).toArray, df⟩ w))
    (hc : okI md ops listed i = true := by kernel_rfl) (ho : ops[i]? = some ⟨o1, o2, o3, o4, o5, o6⟩ := by rfl) (hw : Region.wanted ⟨o1, o2, o3, o4, o5, o6⟩ (yielded ops l.toArray) = true := by rfl)
    (hQ : ∀ c a a' w, Q (.panic c) a' w → Q (.panic c) a w := by exact fun _ _ _ _ h => h) (hS : S w := by assumption) : Pl (i :: is) (wpAnyH P md ops Q S (fuel + 1) listed ⟨l.toArray, df⟩ w) := tk i hy h hc ho hw hQ hS
theorem skl {i : Nat} {is : List Nat} (h : Pl is (wpAnyH P md ops Q S fuel (listed.setIfInBounds i true) ⟨(zS l o1 undef).toArray, df⟩ w))
    (hc : okI md ops listed i = true := by kernel_rfl) (ho : ops[i]? = some ⟨o1, o2, o3, o4, o5, o6⟩ := by rfl) (hw : Region.wanted ⟨o1, o2, o3, o4, o5, o6⟩ (yielded ops l.toArray) = false := by rfl)
    (hQ : ∀ c a a' w, Q (.panic c) a' w → Q (.panic c) a w := by exact fun _ _ _ _ h => h) (hS : S w := by assumption) : Pl (i :: is) (wpAnyH P md ops Q S (fuel + 1) listed ⟨l.toArray, df⟩ w) := sk i h hc ho hw hQ hS
end
/-- Operation i may be taken ahead of the stores. -/
def okT (md : Region.Mode) (ops : Array Oper) (q : List Nat) (listed : Array Bool) (i : Nat) : Bool := okI md ops listed i && q.all fun s => !(s == i) && Region.waitsFor md ops s i && !listed.getD s true
def okS (md : Region.Mode) (ops : Array Oper) (q : List Nat) (listed : Array Bool) (i : Nat) : Bool := okI md ops listed i && q.all fun s => !(s == i)
section
variable {P : Program} {ops : Array Oper} {Q : Exit → Act → World → Prop} {md : Region.Mode} {q : List Nat} {R S : World → Prop} {o1 : _} {o2 : _} {o3 : _} {o4 : _} {o5 : _} {o6 : _} {v : Value} {n : Nat} {listed : Array Bool} {l : List Value} {df : List Deferred} {w : World}
theorem tt (i : Nat) (hy : ∀ w, S w ∧ R w → (execOp (Act.eval ⟨l.toArray, df⟩) ⟨o1, o2, o3, o4, o5, o6⟩).run P w = .ok (.value v) w) (h : Till q R S (listed.setIfInBounds i true) w → wpTill P md ops Q q R S n (listed.setIfInBounds i true) ⟨(zS l o1 v).toArray, df⟩ w)
    (hc : okT md ops q listed i = true := by kernel_rfl) (ho : ops[i]? = some ⟨o1, o2, o3, o4, o5, o6⟩ := by rfl) (hw : Region.wanted ⟨o1, o2, o3, o4, o5, o6⟩ (yielded ops l.toArray) = true := by rfl)
    (hQ : ∀ c a a' w, Q (.panic c) a' w → Q (.panic c) a w := by exact fun _ _ _ _ h => h) (hR : Till q R S listed w := by assumption) : wpTill P md ops Q q R S (n + 1) listed ⟨l.toArray, df⟩ w := by
  have hk := hc
  unfold okT at hk
  rw [Bool.and_eq_true] at hk
  exact wpTill.take ho (okI.of hk.1).1 (okI.of hk.1).2.1 (okI.of hk.1).2.2 hk.2 (fun c b w => hQ c b _ w) (.inl ⟨hw, hy⟩) hR (by rw [zP]; exact h)
theorem ts (i : Nat) (hy : ∀ w, S w → (execOp (Act.eval ⟨l.toArray, df⟩) ⟨o1, o2, o3, o4, o5, o6⟩).run P w = .ok (.value v) w) (h : Till q R S (listed.setIfInBounds i true) w → wpTill P md ops Q q R S n (listed.setIfInBounds i true) ⟨(zS l o1 v).toArray, df⟩ w)
    (hc : okS md ops q listed i = true := by kernel_rfl) (ho : ops[i]? = some ⟨o1, o2, o3, o4, o5, o6⟩ := by rfl) (hw : Region.wanted ⟨o1, o2, o3, o4, o5, o6⟩ (yielded ops l.toArray) = true := by rfl)
    (hQ : ∀ c a a' w, Q (.panic c) a' w → Q (.panic c) a w := by exact fun _ _ _ _ h => h) (hR : Till q R S listed w := by assumption) : wpTill P md ops Q q R S (n + 1) listed ⟨l.toArray, df⟩ w := by
  have hk := hc
  unfold okS at hk
  rw [Bool.and_eq_true] at hk
  exact wpTill.takeAny ho (okI.of hk.1).1 (okI.of hk.1).2.1 (okI.of hk.1).2.2 hk.2 (fun c b w => hQ c b _ w) (.inl ⟨hw, hy⟩) hR (by rw [zP]; exact h)
theorem ttl {i : Nat} {is : List Nat} (hy : ∀ w, S w ∧ R w → (execOp (Act.eval ⟨l.toArray, df⟩) ⟨o1, o2, o3, o4, o5, o6⟩).run P w = .ok (.value v) w) (h : Till q R S (listed.setIfInBounds i true) w → Pl is (wpTill P md ops Q q R S n (listed.setIfInBounds i true) ⟨(zS l o1 v).toArray, df⟩ w))
    (hc : okT md ops q listed i = true := by kernel_rfl) (ho : ops[i]? = some ⟨o1, o2, o3, o4, o5, o6⟩ := by rfl) (hw : Region.wanted ⟨o1, o2, o3, o4, o5, o6⟩ (yielded ops l.toArray) = true := by rfl)
    (hQ : ∀ c a a' w, Q (.panic c) a' w → Q (.panic c) a w := by exact fun _ _ _ _ h => h) (hR : Till q R S listed w := by assumption) : Pl (i :: is) (wpTill P md ops Q q R S (n + 1) listed ⟨l.toArray, df⟩ w) := tt i hy h hc ho hw hQ hR
theorem tsl {i : Nat} {is : List Nat} (hy : ∀ w, S w → (execOp (Act.eval ⟨l.toArray, df⟩) ⟨o1, o2, o3, o4, o5, o6⟩).run P w = .ok (.value v) w) (h : Till q R S (listed.setIfInBounds i true) w → Pl is (wpTill P md ops Q q R S n (listed.setIfInBounds i true) ⟨(zS l o1 v).toArray, df⟩ w))
    (hc : okS md ops q listed i = true := by kernel_rfl) (ho : ops[i]? = some ⟨o1, o2, o3, o4, o5, o6⟩ := by rfl) (hw : Region.wanted ⟨o1, o2, o3, o4, o5, o6⟩ (yielded ops l.toArray) = true := by rfl)
    (hQ : ∀ c a a' w, Q (.panic c) a' w → Q (.panic c) a w := by exact fun _ _ _ _ h => h) (hR : Till q R S listed w := by assumption) : Pl (i :: is) (wpTill P md ops Q q R S (n + 1) listed ⟨l.toArray, df⟩ w) := ts i hy h hc ho hw hQ hR
end
end Go.Proofs.YtbcigelgggimmaaGreatDoor
namespace Go.Proofs.YtbcigelgggimmaaGreatDoor
open Go Go.RowKit
theorem u8_info : (Tryz.prog.info? 5).map (fun i => (i.zero, i.size, i.bytes)) = some (some (.int .u8 0), 1, 1) := by kernel_rfl
/-- A slice of bytes of the call's own is returned. -/
def OwnRet (bs : List UInt8) (w : World) (e : Ending) (w' : World) : Prop :=
  ∃ v, e = .returned v ∧ w'.ownsRow w.heap.size 5 1 v bs.length (bcells bs) ∧ Below w.heap.size w w'
set_option maxHeartbeats 400000 in
theorem bytesClone_any (B : Nat) (v : Value) (bs : List UInt8) (w : World) (hb : Bts w B 5 v bs) (hl : bs.length ≤ 1000000000) :
    Calls Tryz.prog 33 #[v] w (OwnRet bs w) := by
  obtain ⟨A, cap, rfl⟩ := hb.form
  have HL := Lib.hid hl
  clear hl
  obtain ⟨i0, hi0, hz0, hz1, hz2⟩ := info_parts u8_info
  cases A with
  | none =>
    have h0 := hb.src_at.2.2.1 rfl
    have : bs = [] := by simpa using h0
    subst this
    clear hb h0
    go_enter Tryz.func33, Tryz.ntmps33
    go_wp2
    go_ret
    exact ⟨_, rfl, World.ownsRow_nil _ _ _ _, Below.refl _ _⟩
  | some a =>
    have HS := Lib.hid hb
    clear hb
    go_enter Tryz.func33, Tryz.ntmps33
    go_wp2_with (at_builtin; refine wpList_append_src _ rfl _ _ _ rfl w.heap.size 5 i0 _ 1 1 Tryz.underlying39 hi0 hz0 hz1 hz2 rfl (by decide) _ 0 [] rfl (own_empty w _ _) (some a) bs.length cap (bcells bs) rfl (HS.out.alloc _).src_at.2 (bcells_one _) (by have := HL.out; unfold maxLen; omega) (by have := HL.out; omega) (by simp) ?_; intro v1 w1 hown hg hat)
    go_ret
    refine ⟨v1, rfl, by simpa using hown, ?_⟩
    exact ((Below.refl _ _).alloc (Nat.le_refl _) _).grown hg (by simp) (by intro k hk; cases hk; exact Nat.le_refl _)
end Go.Proofs.YtbcigelgggimmaaGreatDoor
namespace Go.Proofs.YtbcigelgggimmaaGreatDoor
open Go Go.RowKit
structure OpV where
  kind : Int
  ticks : Int
  key : ByteArray
  val : List UInt8
  ttl : Int
  count : Int
  bytes : Int
  cursor : Int
  birth : Int
/-- The first bytes, as many as are asked for: missing ones are 0. -/
def takeP (n : Nat) (rs : List UInt8) : List UInt8 := rs.take n ++ List.replicate (n - rs.length) 0
theorem takeP_length (n : Nat) (rs : List UInt8) : (takeP n rs).length = n := by simp [takeP]; omega
/-- A number in bytes, the highest one first. -/
def numBE (l : List UInt8) : Nat := l.foldl (fun x b => x * 256 + b.toNat) 0
theorem numBE_snoc (l : List UInt8) (b : UInt8) : numBE (l ++ [b]) = numBE l * 256 + b.toNat := by simp [numBE]
theorem numBE_acc : ∀ (l : List UInt8) (a : Nat), l.foldl (fun x b => x * 256 + b.toNat) a < (a + 1) * 256 ^ l.length
  | [], a => by simp
  | b :: l, a => by
    have h := numBE_acc l (a * 256 + b.toNat)
    have hb := b.toNat_lt
    have h2 : (a * 256 + b.toNat + 1) * 256 ^ l.length ≤ ((a + 1) * 256) * 256 ^ l.length := Nat.mul_le_mul_right _ (by omega)
    have e : (a + 1) * 256 ^ (b :: l).length = ((a + 1) * 256) * 256 ^ l.length := by rw [List.length_cons, Nat.pow_succ, Nat.mul_comm (256 ^ l.length) 256, Nat.mul_assoc]
    rw [List.foldl_cons, e]
    omega
theorem numBE_lt (l : List UInt8) : numBE l < 256 ^ l.length := by
  have h := numBE_acc l 0
  rw [Nat.zero_add, Nat.one_mul] at h
  exact h
theorem ofInt_64 (a : Nat) (ha : a < 18446744073709551616) : (BitVec.ofInt 64 (a : Int)).toNat = a := by
  rw [BitVec.ofInt_natCast, BitVec.toNat_ofNat]; exact Nat.mod_eq_of_lt (by omega)
/-- A byte put behind a number. -/
theorem join_i64 (x b : Nat) (hx : x < 16777216) (hb : b < 256) : bits .or .i64 ((x : Int) * 256) (b : Int) = ((x * 256 + b : Nat) : Int) := by
  have e : ((x : Int) * 256) = ((x * 256 : Nat) : Int) := by omega
  rw [e]
  show IntKind.i64.wrap ((BitVec.ofInt 64 ((x * 256 : Nat) : Int) ||| BitVec.ofInt 64 (b : Int)).toNat : Int) = _
  rw [BitVec.toNat_or, ofInt_64 _ (by omega), ofInt_64 b (by omega), IntKind.wrap_i64, nat_join 8 (x * 256) b (by omega) (by omega)]
  omega
inductive Part where
  | key | value | ttl | budgets | aim | birth
def kindL : List Int := [3, 1, 2, 4, 5, 6, 7, 8, 9, 10, 11, 12, 13, 14, 3, 1]
def partsOf (k : Int) : List Part :=
  if k = 3 ∨ k = 4 ∨ k = 6 then [.key]
  else if k = 1 then [.key, .value]
  else if k = 2 then [.key, .value, .ttl]
  else if k = 5 then [.key, .ttl]
  else if k = 8 then [.budgets]
  else if k = 12 ∨ k = 14 then [.aim]
  else if k = 13 then [.aim, .birth]
  else []
/-- What is read of a part. -/
def rdPart (p : Part) (o : OpV) (rs : List UInt8) : OpV × List UInt8 :=
  match p with
  | .key => ({ o with key := ⟨(takeP (numBE (takeP 1 rs) % 32) (rs.drop 1)).toArray⟩ }, (rs.drop 1).drop (numBE (takeP 1 rs) % 32))
  | .value => ({ o with val := takeP (numBE (takeP 1 rs)) (rs.drop 1) }, (rs.drop 1).drop (numBE (takeP 1 rs)))
  | .ttl => ({ o with ttl := numBE (takeP 2 rs) }, rs.drop 2)
  | .budgets => ({ o with count := numBE (takeP 2 rs), bytes := numBE (takeP 3 (rs.drop 2)) }, (rs.drop 2).drop 3)
  | .aim => ({ o with cursor := numBE (takeP 1 rs) }, rs.drop 1)
  | .birth => ({ o with birth := numBE (takeP 2 rs) }, rs.drop 2)
def rdParts : List Part → OpV → List UInt8 → OpV × List UInt8
  | [], o, rs => (o, rs)
  | p :: ps, o, rs => rdParts ps (rdPart p o rs).1 (rdPart p o rs).2
def op0 (x : Nat) : OpV := ⟨kindL.getD (x % 16) 0, (x / 16 : Nat), ⟨#[]⟩, [], 0, 0, 0, 0, 0⟩
/-- An operation with its ticks read. -/
def rdHead (rs : List UInt8) : OpV × List UInt8 :=
  if numBE (takeP 1 rs) / 16 = 15 then ({ op0 (numBE (takeP 1 rs)) with ticks := 15 + (numBE (takeP 1 (rs.drop 1)) : Int) }, (rs.drop 1).drop 1)
  else (op0 (numBE (takeP 1 rs)), rs.drop 1)
def rdOp (rs : List UInt8) : OpV × List UInt8 := rdParts (partsOf (rdHead rs).1.kind) (rdHead rs).1 (rdHead rs).2
/-- A number's lowest byte. -/
def byteI (x : Int) : UInt8 := UInt8.ofNat (x % 256).toNat
theorem byteI_toNat (x : Int) : ((byteI x).toNat : Int) = x % 256 := by
  unfold byteI
  rw [UInt8.toNat_ofNat']
  omega
def big2 (x : Int) : List UInt8 := [byteI (x / 256), byteI x]
def big3 (x : Int) : List UInt8 := [byteI (x / 65536), byteI (x / 256), byteI x]
/-- A part's bytes. -/
def wrPart (p : Part) (o : OpV) : List UInt8 :=
  match p with
  | .key => byteI o.key.size :: o.key.data.toList
  | .value => byteI o.val.length :: o.val
  | .ttl => big2 (wrap64 o.ttl)
  | .budgets => big2 o.count ++ big3 o.bytes
  | .aim => [byteI o.cursor]
  | .birth => big2 (wrap64 o.birth)
/-- An operation's bytes, before they are read again. -/
def wrRaw (code : Int) (o : OpV) : List UInt8 :=
  byteI (code + 16 * min o.ticks 15) :: ((if 15 ≤ o.ticks then [byteI (o.ticks - 15)] else []) ++ (partsOf o.kind).flatMap fun p => wrPart p o)
def eqO (a b : OpV) : Prop := a.kind = b.kind ∧ a.ticks = b.ticks ∧ a.key = b.key ∧ a.val = b.val ∧ a.ttl = b.ttl ∧ a.count = b.count ∧ a.bytes = b.bytes ∧ a.cursor = b.cursor ∧ a.birth = b.birth
instance (a b : OpV) : Decidable (eqO a b) := inferInstanceAs (Decidable (_ ∧ _))
theorem eqO_iff (a b : OpV) : eqO a b ↔ a = b := by
  obtain ⟨a1, a2, a3, a4, a5, a6, a7, a8, a9⟩ := a
  obtain ⟨b1, b2, b3, b4, b5, b6, b7, b8, b9⟩ := b
  simp [eqO]
/-- The place of a kind, or -1. -/
def codeI (k : Int) : Int := Lib.idxOf kindL k
/-- An operation's bytes, if it can be written. -/
def wrOp (o : OpV) : Option (List UInt8) :=
  if codeI o.kind < 0 ∨ 270 < o.ticks ∨ 31 < o.key.size ∨ 255 < o.val.length then none
  else if eqO (rdOp (wrRaw (codeI o.kind) o)).1 o then some (wrRaw (codeI o.kind) o) else none
/-- The cells of an operation whose value is a slice. -/
def opcs (o : OpV) (v : Value) : List Value := [.int .i64 o.kind, .int .u64 o.ticks, .string o.key, v, .int .u64 o.ttl, .int .i64 o.count, .int .i64 o.bytes, .int .i64 o.cursor, .int .u64 o.birth]
def opc (o : OpV) (v : Value) : Array Value := #[.int .i64 o.kind, .int .u64 o.ticks, .string o.key, v, .int .u64 o.ttl, .int .i64 o.count, .int .i64 o.bytes, .int .i64 o.cursor, .int .u64 o.birth]
def opv (o : OpV) (v : Value) : Value := .agg (opc o v)
/-- What is cut off a slice of bytes. -/
theorem Bts.from_ {w : World} {B U : Nat} {A : Option Addr} {n cap : Nat} {bs : List UInt8} (h : Bts w B U (.slice A n cap) bs) (m : Nat) (hm : m ≤ n) :
    Bts w B U (sliced A m n cap 1) (bs.drop m) := by
  obtain ⟨A', cap', e, hl, hc, hn, hr⟩ := h
  injection e with e1 e2 e3
  subst e1 e2 e3
  refine ⟨if cap = m then A else A.map (·.add (m * 1)), cap - m, ?_, by simp; omega, by omega, ?_, ?_⟩
  · simp only [sliced, List.length_drop]
  · intro h0
    split at h0
    · have := hn h0; simp; omega
    · have h1 : A = none := by simpa using h0
      have := hn h1; simp; omega
  · intro hp
    rw [List.length_drop] at hp
    obtain ⟨b, off, hA, hb, ht, hx⟩ := hr (by omega)
    rw [if_neg (by omega)]
    refine ⟨b, off + m, ?_, hb, ht, fun i hi => ?_⟩
    · rw [hA, Option.map_some, add_plain, Nat.mul_one]
    · rw [List.length_drop] at hi
      rw [Nat.add_assoc, hx (m + i) (by omega), List.getElem_drop]
/-- The same, cut at both ends. -/
theorem Bts.cut_ {w : World} {B U : Nat} {A : Option Addr} {n cap : Nat} {bs : List UInt8} (h : Bts w B U (.slice A n cap) bs) (l u : Nat) (hl : l ≤ u) (hu : u ≤ n) :
    Bts w B U (sliced A l u cap 1) ((bs.take u).drop l) := by
  have h1 : Bts w B U (.slice A u cap) (bs.take u) := by
    obtain ⟨A', cap', e, hl, hc, hn, hr⟩ := h
    injection e with e1 e2 e3
    subst e1 e2 e3
    refine ⟨A, cap, by simp [Nat.min_eq_left hu], by simp; omega, hc, fun h0 => by have := hn h0; simp; omega, fun hp => ?_⟩
    obtain ⟨b, off, hA, hb, ht, hx⟩ := hr (by simp at hp; omega)
    refine ⟨b, off, hA, hb, ht, fun i hi => ?_⟩
    simp at hi
    rw [hx i (by omega)]
    simp
  exact h1.from_ l hl
end Go.Proofs.YtbcigelgggimmaaGreatDoor
namespace Go.Proofs.YtbcigelgggimmaaGreatDoor
open Go Go.RowKit
/-- A row that was made and then filled at its head. -/
theorem splice_made (n : Nat) (rs : List UInt8) : splice (List.replicate n (Value.int .u8 0)) 0 (bcells (rs.take n)) = bcells (takeP n rs) := by
  unfold splice takeP bcells
  simp only [List.take_zero, List.nil_append, List.length_map, List.map_append, Nat.zero_add, List.drop_replicate, List.map_replicate]
  congr 2
  simp
  omega
theorem u8_size : (Tryz.prog.info? 5).map (·.size) = some 1 := by kernel_rfl
theorem size_reader (w : World) : (sizeOf (Tryz.prog.elem 154)).run Tryz.prog w = .ok 1 w := by kernel_rfl
theorem take_len (n : Nat) (rs : List UInt8) : (bcells (rs.take n)).length = Nat.min rs.length n := by simp [bcells, Nat.min_comm]
theorem take_fit (n : Nat) (rs : List UInt8) : 0 + (bcells (rs.take n)).length ≤ (List.replicate n (Value.int .u8 0)).length := by simp [bcells]; omega
theorem Bts.copy_src {w : World} {B : Nat} {A : Option Addr} {m cap : Nat} {rs : List UInt8} (h : Bts w B 5 (.slice A m cap) rs) (n : Nat) (D : Option Addr) (g : Nat) (hD : D = some ⟨g, 0, none⟩) :
    0 < (bcells (rs.take n)).length → D = some ⟨g, 0, none⟩ ∧ ∃ ad, A = some ad ∧ ∀ j v, (bcells (rs.take n))[j]? = some v → w.cell? (ad.add j) = some v := by
  intro hp
  obtain ⟨e, hs⟩ := h.src_at
  cases A with
  | none => have h0 := hs.2.1 rfl; simp [bcells] at hp; omega
  | some ad =>
    refine ⟨hD, ad, rfl, fun j v hj => hs.2.2 ad rfl j v ?_⟩
    simp only [bcells, List.map_take] at hj ⊢
    rw [List.getElem?_take] at hj
    split at hj
    · exact hj
    · cases hj
theorem Only.set1 (w : World) (g i : Nat) (u : Value) : Only (fun k => k = g) w (w.setCell ⟨g, i, none⟩ u) := Only.setCell (S := fun k => k = g) (Only.refl _ _) (p := ⟨g, i, none⟩) (.inl rfl) _
theorem KeepB.of_blk {B U g t : Nat} {w w' : World} {cs : Array Value} (hb : Blk w g t cs) (ht : t ≠ U) (hg : B ≤ g) (ho : Only (fun k => k = g) w w') : KeepB B U w w' :=
  KeepB.of_only ho fun k _ e => ⟨by omega, fun c fr h => by
    subst e
    exact hb.ne_ h ht rfl⟩
/-- What take has done: the bytes lie in a new row; the reader has what is left. -/
structure TakePost (w w' : World) (B g : Nat) (n : Nat) (rs : List UInt8) (v : Value) : Prop where
  own : w'.ownsRow w.heap.size 5 1 v n (bcells (takeP n rs))
  box : ∃ V', Blk w' g 154 #[V'] ∧ Bts w' B 5 V' (rs.drop n)
  only : Only (fun k => k = g) w w'
set_option maxHeartbeats 1000000 in
set_option maxRecDepth 100000 in
theorem take_any (B g : Nat) (V : Value) (rs : List UInt8) (n : Nat) (w : World) (hb : Blk w g 154 #[V]) (hv : Bts w B 5 V rs) (hg : B ≤ g) (hn : n ≤ 1000000) :
    Calls Tryz.prog 223 #[.pointer (some ⟨g, 0, none⟩), .int .i64 n] w fun e w' => ∃ v, e = .returned v ∧ TakePost w w' B g n rs v := by
  obtain ⟨A, cap, rfl⟩ := hv.form
  have hmk := run_make_row' (P := Tryz.prog) 39 5 (.int .u8 0) 1 Tryz.underlying39 u8_info rfl .i64 .i64 n (by omega) (by omega) w
  obtain ⟨w1, hw1⟩ : ∃ w1, w.alloc (.cells (madeCells #[.int .u8 0] n) 5) = w1 := ⟨_, rfl⟩
  have hb1 : Blk w1 g 154 #[.slice A rs.length cap] := hw1 ▸ hb.alloc _
  have hv1 : Bts w1 B 5 (.slice A rs.length cap) rs := hw1 ▸ hv.alloc _
  have hn1 : Blk w1 w.heap.size 5 (List.replicate n (Value.int .u8 0)).toArray := by
    rw [← hw1, ← toList_madeCells_one]; exact Blk.new _ _ _
  have hbe : Below w.heap.size w w1 := hw1 ▸ (Below.refl _ _).alloc (Nat.le_refl _) _
  rw [hw1] at hmk
  have c0 : w1.cell? ⟨g, 0, none⟩ = some (.slice A rs.length cap) := hb1.cell 0 _ rfl
  have hlt := hb.lt
  have HB0 := Lib.hid hb
  have HB := Lib.hid hb1
  have HV := Lib.hid hv1
  have HV0 := Lib.hid hv
  have HG := Lib.hid hg
  have HN := Lib.hid hn1
  have HE := Lib.hid hbe
  have HS := Lib.hid hn
  have HL : Hid (g < w.heap.size) := Lib.hid hlt
  clear hb hv hn hg hb1 hv1 hn1 hbe hw1 hlt
  obtain ⟨cs, hcs⟩ : ∃ cs, bcells (rs.take n) = cs := ⟨_, rfl⟩
  have h1 := take_len n rs
  have h2 : ∀ w', Bts w' B 5 (.slice A rs.length cap) rs → 0 < cs.length → ∃ ad, A = some ad ∧ ∀ j v, cs[j]? = some v → w'.cell? (ad.add j) = some v := fun w' h hp => by
    have := h.copy_src n (some ⟨w.heap.size, 0, none⟩) w.heap.size rfl
    rw [hcs] at this
    exact (this hp).2
  have h3 := take_fit n rs
  have h4 := bcells_one (rs.take n)
  have h5 := splice_made n rs
  rw [hcs] at h1 h3 h4 h5
  obtain ⟨A', hV'⟩ : ∃ A', sliced A cs.length rs.length cap 1 = .slice A' (rs.length - cs.length) (cap - cs.length) := ⟨_, rfl⟩
  have hcl : cs.length = min n rs.length := by rw [h1, Nat.min_comm]
  have hsl : ∀ w', (Instr.slice 154 (.slice A rs.length cap) (some (.int .i64 cs.length)) none none).run Tryz.prog w' = .ok (.slice A' (rs.length - cs.length) (cap - cs.length)) w' := fun w' => by
    rw [run_slice_l w' 154 A rs.length cap Tryz.underlying154 .i64 _ (Int.natCast_nonneg _) (by omega)]
    rw [size_reader, Int.toNat_natCast]
    exact congrArg (Result.ok · w') hV'
  have hdr : rs.drop cs.length = rs.drop n := by
    rw [hcl]
    by_cases hc : n ≤ rs.length
    · rw [Nat.min_eq_left hc]
    · rw [Nat.min_eq_right (by omega), List.drop_length, List.drop_eq_nil_of_le (by omega)]
  have hbv : ∀ w', Bts w' B 5 (.slice A rs.length cap) rs → Bts w' B 5 (.slice A' (rs.length - cs.length) (cap - cs.length)) (rs.drop n) := fun w' h => by
    rw [← hV', ← hdr]; exact h.from_ cs.length (by omega)
  have H1 := Lib.hid h1
  have H2 := Lib.hid h2
  have H3 := Lib.hid h3
  have H4 := Lib.hid h4
  have H5 := Lib.hid h5
  have H6 := Lib.hid hbv
  clear h1 h2 h3 h4 h5 hcs hV' hcl hdr hbv
  go_enter Tryz.func223, Tryz.ntmps223
  go_wp2
  go_region_law
    ((refine step_copy_splice rfl (.tmp 12) (.tmp 15) 39 154 rfl 5 Tryz.underlying39 u8_size (some ⟨w.heap.size, 0, none⟩) A n n rs.length cap rfl rfl w.heap.size 0 (List.replicate n (Value.int .u8 0)) 5 HN.out.drew cs H1.out (fun hp => ⟨rfl, H2.out _ HV.out.drew hp⟩) H3.out H4.out w.heap.size w (HE.out.drew) (Nat.le_refl _) ?_; intro w2 hr2 hb2; have hbx := (hb2.block _ HL.out).trans HB0.out; have c0' : w2.cell? ⟨g, 0, none⟩ = some (.slice A rs.length cap) := Blk.cell hbx 0 _ rfl; have f0 := Blk.frozen hbx 0))
  all_goals
    go_wp2
    go_ret
    have hl : (takeP n rs).length = n := takeP_length n rs
    have hr3 := hr2.out
    rw [H5.out] at hr3
    have ho : w2.ownsRow w.heap.size 5 1 (.slice (some ⟨w.heap.size, 0, none⟩) n n) n (bcells (takeP n rs)) :=
      ⟨by rw [bcells_length, hl, Nat.mul_one], .inr ⟨_, _, _, rfl, Nat.le_refl _, hr3, Nat.le_refl _, by have := HS.out; unfold maxLen; omega, by simp [bcells, hl], by rw [Nat.mul_one]; exact List.take_of_length_le (by simp [bcells, hl])⟩⟩
    have hon : Only (fun k => k = g) w2 (w2.setCell ⟨g, 0, none⟩ (.slice A' (rs.length - cs.length) (cap - cs.length))) := Only.set1 _ _ _ _
    refine ⟨_, rfl, ownsRow_only ho hon (fun k hk e => by simp [Value.ownBlock] at hk; have := HL.out; omega), ⟨_, Blk.set_ hbx 0 _, (H6.out w2 (HV0.out.below hb2)).keep (KeepB.of_blk hbx (by decide) HG.out hon)⟩, Only.setCell (S := fun k => k = g) (Only.of_below hb2) (p := ⟨g, 0, none⟩) (.inl rfl) _⟩
theorem TakePost.lt {w w' : World} {B g n : Nat} {rs : List UInt8} {v : Value} (h : TakePost w w' B g n rs v) : g < w'.heap.size := by
  obtain ⟨V', h1, _⟩ := h.box
  exact h1.lt
/-- What number has done. -/
structure NumPost (w w' : World) (B g : Nat) (n : Nat) (rs : List UInt8) : Prop where
  box : ∃ V', Blk w' g 154 #[V'] ∧ Bts w' B 5 V' (rs.drop n)
  only : Only (fun k => k = g) w w'
theorem row_bcell {w : World} {base : Nat} {A : Option Addr} {n cap : Nat} {bs : List UInt8} (h : w.ownsRow base 5 1 (.slice A n cap) n (bcells bs)) {i : Nat} {x : UInt8} (hi : bs[i]? = some x) (hn : i < n) :
    ∃ g, A = some ⟨g, 0, none⟩ ∧ w.cell? ⟨g, i, none⟩ = some (.int .u8 (x.toNat : Int)) := by
  rcases h.2 with ⟨_, h2⟩ | ⟨g, c, cur, hv, hg, hh, hnc, hm, hcs, ht⟩
  · omega
  · injection hv with e1 e2 e3
    refine ⟨g, e1, ?_⟩
    have hc : cur[i]? = some (.int .u8 (x.toNat : Int)) := by
      have : (cur.toList.take (n * 1))[i]? = some (.int .u8 (x.toNat : Int)) := by
        rw [ht]
        simp [bcells, hi]
      rw [List.getElem?_take, if_pos (by omega)] at this
      simpa using this
    simp [World.cell?, hh, hc]
set_option maxHeartbeats 1000000 in
theorem number_any (B g : Nat) (V : Value) (rs : List UInt8) (n : Nat) (w : World) (hb : Blk w g 154 #[V]) (hv : Bts w B 5 V rs) (hg : B ≤ g) (hn : n ≤ 3) :
    Calls Tryz.prog 153 #[.pointer (some ⟨g, 0, none⟩), .int .i64 n] w fun e w' => e = .returned (.int .i64 (numBE (takeP n rs))) ∧ NumPost w w' B g n rs := by
  have HB := Lib.hid hb
  have HV := Lib.hid hv
  have HG := Lib.hid hg
  have HN := Lib.hid hn
  clear hb hv hg hn
  go_enter Tryz.func153, Tryz.ntmps153
  go_wp2_with fail
  refine (take_any B g V rs n w HB.out HV.out HG.out (by have := HN.out; omega)).mono ?_
  rintro e w1 ⟨v, rfl, ho, hx, hon⟩
  obtain ⟨A, cap, rfl, _, _⟩ := own_form ho
  have HX := Lib.hid hx
  have HO := Lib.hid ho
  have HY := Lib.hid hon
  clear ho hx hon
  go_wp2_with fail
  go_loopw [5, 12] (fun x i wr => ∃ m : Nat, m ≤ n ∧ i = .int .i64 m ∧ x = .int .i64 (numBE ((takeP n rs).take m)) ∧ wr = w1) (fun _ i _ => n - (intOf i).toNat)
  case atStart => exact ⟨0, by omega, rfl, rfl, rfl⟩
  case round =>
    obtain ⟨m, hm, rfl, rfl, rfl⟩ := hrel
    by_cases hml : m < n
    · obtain ⟨x, hx⟩ : ∃ x, (takeP n rs)[m]? = some x := ⟨_, List.getElem?_eq_getElem (by rw [takeP_length]; exact hml)⟩
      obtain ⟨gg, rfl, hc⟩ := row_bcell HO.out hx hml
      have hmI : (m : Int) < (n : Int) := by omega
      have hnI : (n : Int) ≤ 3 := by have := HN.out; omega
      have hxb := numBE_lt ((takeP n rs).take m)
      have hxl : ((takeP n rs).take m).length = m := by rw [List.length_take, takeP_length]; omega
      have hn3 := HN.out
      have h3 : numBE ((takeP n rs).take m) < 65536 := by
        rw [hxl] at hxb
        rcases (by omega : m = 0 ∨ m = 1 ∨ m = 2) with e | e | e <;> rw [e] at hxb ⊢ <;> omega
      have hbb := x.toNat_lt
      have hj := join_i64 (numBE ((takeP n rs).take m)) x.toNat (by omega) hbb
      have ht : (takeP n rs).take (m + 1) = (takeP n rs).take m ++ [x] := by rw [List.take_add_one, hx]; rfl
      have e1 : wrap64 ((numBE ((takeP n rs).take m) : Int) * 256) = (numBE ((takeP n rs).take m) : Int) * 256 := by unfold wrap64; omega
      have e2 : wrap64 (x.toNat : Int) = (x.toNat : Int) := by unfold wrap64; omega
      have hq : bits .or .i64 (wrap64 ((numBE ((takeP n rs).take m) : Int) * 256)) (wrap64 (x.toNat : Int)) = (numBE ((takeP n rs).take (m + 1)) : Int) := by rw [e1, e2, hj, ht, numBE_snoc]
      have HQ := Lib.hid hq
      clear hxb hxl h3 hbb hj ht e1 e2 hq hx hn3
      go_wp2_with fail
      go_roundw
      case rel => exact ⟨m + 1, by omega, by go_num, by rw [HQ.out], trivial⟩
      case measure => simp [intOf]; omega
    · obtain rfl : m = n := by omega
      go_wp2_with fail
      go_ret
      exact ⟨by rw [show (takeP m rs).take m = takeP m rs from List.take_of_length_le (by rw [takeP_length]; exact Nat.le_refl _)]; rfl, HX.out, HY.out⟩
end Go.Proofs.YtbcigelgggimmaaGreatDoor
namespace Go.Proofs.YtbcigelgggimmaaGreatDoor
open Go Go.RowKit
/-- A reader with some bytes left. -/
def RS (w : World) (B g : Nat) (rs : List UInt8) : Prop := ∃ V, Blk w g 154 #[V] ∧ Bts w B 5 V rs
/-- An operation in a box. -/
def OS (w : World) (B h : Nat) (o : OpV) : Prop := ∃ V, Blk w h 41 (opc o V) ∧ Bts w B 5 V o.val
section
variable {w w' : World} {B g h : Nat} {rs : List UInt8} {o : OpV}
theorem RS.below (k : RS w B g rs) (hb : Below w.heap.size w w') : RS w' B g rs := by
  obtain ⟨V, h1, h2⟩ := k
  exact ⟨V, h1.below hb, h2.below hb⟩
theorem OS.below (k : OS w B h o) (hb : Below w.heap.size w w') : OS w' B h o := by
  obtain ⟨V, h1, h2⟩ := k
  exact ⟨V, h1.below hb, h2.below hb⟩
theorem RS.ne (k : RS w B g rs) (j : OS w B h o) : g ≠ h := by
  obtain ⟨V, h1, _⟩ := k
  obtain ⟨V2, h2, _⟩ := j
  exact h1.ne_ h2 (by decide)
theorem RS.lt (k : RS w B g rs) : g < w.heap.size := by obtain ⟨V, h1, _⟩ := k; exact h1.lt
theorem OS.lt (k : OS w B h o) : h < w.heap.size := by obtain ⟨V, h1, _⟩ := k; exact h1.lt
theorem OS.only (k : OS w B h o) (r : RS w B g rs) (hg : B ≤ g) (ho : Only (fun k => k = g) w w') : OS w' B h o := by
  have hne := r.ne k
  obtain ⟨V, h1, h2⟩ := k
  obtain ⟨V2, h3, _⟩ := r
  exact ⟨V, h1.only ho (fun e => hne e.symm), h2.keep (KeepB.of_blk h3 (by decide) hg ho)⟩
theorem RS.only (r : RS w B g rs) (k : OS w B h o) (hg : B ≤ h) (ho : Only (fun k => k = h) w w') : RS w' B g rs := by
  have hne := r.ne k
  obtain ⟨V, h1, h2⟩ := k
  obtain ⟨V2, h3, h4⟩ := r
  exact ⟨V2, h3.only ho hne, h4.keep (KeepB.of_blk h1 (by decide) hg ho)⟩
end
theorem number_rs (B g : Nat) (rs : List UInt8) (n : Nat) (w : World) (hr : RS w B g rs) (hg : B ≤ g) (hn : n ≤ 3) :
    Calls Tryz.prog 153 #[.pointer (some ⟨g, 0, none⟩), .int .i64 n] w fun e w' => e = .returned (.int .i64 (numBE (takeP n rs))) ∧ RS w' B g (rs.drop n) ∧ Only (fun k => k = g) w w' := by
  obtain ⟨V, h1, h2⟩ := hr
  refine (number_any B g V rs n w h1 h2 hg hn).mono ?_
  rintro e w' ⟨rfl, hb, ho⟩
  exact ⟨rfl, hb, ho⟩
theorem take_rs (B g : Nat) (rs : List UInt8) (n : Nat) (w : World) (hr : RS w B g rs) (hg : B ≤ g) (hn : n ≤ 1000000) :
    Calls Tryz.prog 223 #[.pointer (some ⟨g, 0, none⟩), .int .i64 n] w fun e w' => ∃ v, e = .returned v ∧ w'.ownsRow w.heap.size 5 1 v n (bcells (takeP n rs)) ∧ RS w' B g (rs.drop n) ∧ Only (fun k => k = g) w w' := by
  obtain ⟨V, h1, h2⟩ := hr
  refine (take_any B g V rs n w h1 h2 hg hn).mono ?_
  rintro e w' ⟨v, rfl, ho, hb, hy⟩
  exact ⟨v, rfl, ho, hb, hy⟩
/-- What a part's reader has done. -/
def RdPost (B g h : Nat) (r : OpV × List UInt8) (w : World) (e : Ending) (w' : World) : Prop :=
  (∃ u, e = .returned u) ∧ RS w' B g r.2 ∧ OS w' B h r.1 ∧ Only (fun k => k = g ∨ k = h) w w'
def rdF : Part → Nat
  | .key => 224
  | .value => 226
  | .ttl => 228
  | .budgets => 231
  | .aim => 233
  | .birth => 235
/-- A number of some bytes is read and kept in a field. -/
theorem RdPost.put {B g h i : Nat} {o o' : OpV} {rs : List UInt8} {w wx : World} {V V' u : Value} (hr : RS wx B g rs) (hb : Blk wx h 41 (opc o V)) (hv : Bts wx B 5 V' o'.val)
    (e : (opc o V).setIfInBounds i u = opc o' V') (hh : B ≤ h) (hne : g ≠ h) (hy : Only (fun k => k = g ∨ k = h) w wx) (x : Value) : RdPost B g h (o', rs) w (.returned x) (wx.setCell ⟨h, i, none⟩ u) := by
  have hon : Only (fun k => k = h) wx (wx.setCell ⟨h, i, none⟩ u) := Only.set1 _ _ _ _
  have hk : KeepB B 5 wx (wx.setCell ⟨h, i, none⟩ u) := KeepB.of_blk hb (by decide) hh hon
  obtain ⟨V2, h3, h4⟩ := hr
  exact ⟨⟨x, rfl⟩, ⟨V2, h3.only hon hne, h4.keep hk⟩, ⟨V', e ▸ hb.set_ i u, hv.keep hk⟩, Only.setCell (S := fun k => k = g ∨ k = h) hy (p := ⟨h, i, none⟩) (.inl (.inr rfl)) _⟩
theorem Only.or_l {S T : Nat → Prop} {a b : World} (h : Only S a b) : Only (fun k => S k ∨ T k) a b := h.mono fun _ _ hs => .inl hs
set_option maxHeartbeats 1000000 in
theorem rd_ttl (B g h : Nat) (rs : List UInt8) (o : OpV) (w : World) (hr : RS w B g rs) (ho : OS w B h o) (hg : B ≤ g) (hh : B ≤ h) :
    Calls Tryz.prog 228 #[.pointer (some ⟨g, 0, none⟩), .pointer (some ⟨h, 0, none⟩)] w (RdPost B g h (rdPart .ttl o rs) w) := by
  have hne := hr.ne ho
  have HR := Lib.hid hr
  have HO := Lib.hid ho
  have HG := Lib.hid hg
  have HH := Lib.hid hh
  have HE := Lib.hid hne
  clear hr ho hg hh hne
  go_enter Tryz.func228, Tryz.ntmps228
  go_wp2_with fail
  refine (number_rs B g rs 2 w HR.out HG.out (by omega)).mono ?_
  rintro e w1 ⟨rfl, hr1, hy1⟩
  obtain ⟨V, hb, hv⟩ := HO.out.only HR.out HG.out hy1
  have HB := Lib.hid hb
  have HV := Lib.hid hv
  have HR1 := Lib.hid hr1
  have HY1 := Lib.hid hy1
  have f := hb.frozen
  have c := hb.cell 4 _ rfl
  have hn := numBE_lt (takeP 2 rs)
  rw [takeP_length] at hn
  clear hb hv hr1 hy1
  have hw : IntKind.u64.wrap (numBE (takeP 2 rs) : Int) = (numBE (takeP 2 rs) : Int) := by rw [IntKind.wrap_u64]; omega
  go_wp2_with fail
  refine bodyPost_end (v := .tuple #[]) (results_none rfl _ _ _) rfl ?_
  exact RdPost.put (o' := (rdPart .ttl o rs).1) (V' := V) HR1.out HB.out HV.out rfl HH.out HE.out HY1.out.or_l _
set_option maxHeartbeats 1000000 in
theorem rd_aim (B g h : Nat) (rs : List UInt8) (o : OpV) (w : World) (hr : RS w B g rs) (ho : OS w B h o) (hg : B ≤ g) (hh : B ≤ h) :
    Calls Tryz.prog 233 #[.pointer (some ⟨g, 0, none⟩), .pointer (some ⟨h, 0, none⟩)] w (RdPost B g h (rdPart .aim o rs) w) := by
  have hne := hr.ne ho
  have HR := Lib.hid hr
  have HO := Lib.hid ho
  have HG := Lib.hid hg
  have HH := Lib.hid hh
  have HE := Lib.hid hne
  clear hr ho hg hh hne
  go_enter Tryz.func233, Tryz.ntmps233
  go_wp2_with fail
  refine (number_rs B g rs 1 w HR.out HG.out (by omega)).mono ?_
  rintro e w1 ⟨rfl, hr1, hy1⟩
  obtain ⟨V, hb, hv⟩ := HO.out.only HR.out HG.out hy1
  have HB := Lib.hid hb
  have HV := Lib.hid hv
  have HR1 := Lib.hid hr1
  have HY1 := Lib.hid hy1
  have f := hb.frozen
  have c := hb.cell 7 _ rfl
  have hn := numBE_lt (takeP 1 rs)
  rw [takeP_length] at hn
  clear hb hv hr1 hy1
  have hw : IntKind.u64.wrap (numBE (takeP 1 rs) : Int) = (numBE (takeP 1 rs) : Int) := by rw [IntKind.wrap_u64]; omega
  go_wp2_with fail
  refine bodyPost_end (v := .tuple #[]) (results_none rfl _ _ _) rfl ?_
  exact RdPost.put (o' := (rdPart .aim o rs).1) (V' := V) HR1.out HB.out HV.out rfl HH.out HE.out HY1.out.or_l _
set_option maxHeartbeats 1000000 in
theorem rd_birth (B g h : Nat) (rs : List UInt8) (o : OpV) (w : World) (hr : RS w B g rs) (ho : OS w B h o) (hg : B ≤ g) (hh : B ≤ h) :
    Calls Tryz.prog 235 #[.pointer (some ⟨g, 0, none⟩), .pointer (some ⟨h, 0, none⟩)] w (RdPost B g h (rdPart .birth o rs) w) := by
  have hne := hr.ne ho
  have HR := Lib.hid hr
  have HO := Lib.hid ho
  have HG := Lib.hid hg
  have HH := Lib.hid hh
  have HE := Lib.hid hne
  clear hr ho hg hh hne
  go_enter Tryz.func235, Tryz.ntmps235
  go_wp2_with fail
  refine (number_rs B g rs 2 w HR.out HG.out (by omega)).mono ?_
  rintro e w1 ⟨rfl, hr1, hy1⟩
  obtain ⟨V, hb, hv⟩ := HO.out.only HR.out HG.out hy1
  have HB := Lib.hid hb
  have HV := Lib.hid hv
  have HR1 := Lib.hid hr1
  have HY1 := Lib.hid hy1
  have f := hb.frozen
  have c := hb.cell 8 _ rfl
  have hn := numBE_lt (takeP 2 rs)
  rw [takeP_length] at hn
  clear hb hv hr1 hy1
  have hw : IntKind.u64.wrap (numBE (takeP 2 rs) : Int) = (numBE (takeP 2 rs) : Int) := by rw [IntKind.wrap_u64]; omega
  go_wp2_with fail
  refine bodyPost_end (v := .tuple #[]) (results_none rfl _ _ _) rfl ?_
  exact RdPost.put (o' := (rdPart .birth o rs).1) (V' := V) HR1.out HB.out HV.out rfl HH.out HE.out HY1.out.or_l _
set_option maxHeartbeats 1000000 in
theorem rd_budgets (B g h : Nat) (rs : List UInt8) (o : OpV) (w : World) (hr : RS w B g rs) (ho : OS w B h o) (hg : B ≤ g) (hh : B ≤ h) :
    Calls Tryz.prog 231 #[.pointer (some ⟨g, 0, none⟩), .pointer (some ⟨h, 0, none⟩)] w (RdPost B g h (rdPart .budgets o rs) w) := by
  have hne := hr.ne ho
  have HR := Lib.hid hr
  have HO := Lib.hid ho
  have HG := Lib.hid hg
  have HH := Lib.hid hh
  have HE := Lib.hid hne
  clear hr ho hg hh hne
  go_enter Tryz.func231, Tryz.ntmps231
  go_wp2_with fail
  refine (number_rs B g rs 2 w HR.out HG.out (by omega)).mono ?_
  rintro e w1 ⟨rfl, hr1, hy1⟩
  obtain ⟨V, hb, hv⟩ := HO.out.only HR.out HG.out hy1
  have HB := Lib.hid hb
  have HV := Lib.hid hv
  have HR1 := Lib.hid hr1
  have HY1 := Lib.hid hy1
  have f := hb.frozen
  have c := hb.cell 5 _ rfl
  clear hb hv hr1 hy1
  go_wp2_with fail
  have hp := RdPost.put (g := g) (o' := { o with count := numBE (takeP 2 rs) }) (V' := V) (i := 5) (u := .int .i64 (numBE (takeP 2 rs))) HR1.out HB.out HV.out rfl HH.out HE.out HY1.out.or_l (.tuple #[])
  generalize World.setCell _ _ _ = w2 at hp ⊢
  obtain ⟨_, hr2, ho2, hy2⟩ := hp
  have HR2 := Lib.hid hr2
  have HO2 := Lib.hid ho2
  have HY2 := Lib.hid hy2
  clear f c hr2 ho2 hy2 HB HV
  refine (number_rs B g (rs.drop 2) 3 w2 HR2.out HG.out (by omega)).mono ?_
  rintro e w3 ⟨rfl, hr3, hy3⟩
  obtain ⟨V3, hb, hv⟩ := HO2.out.only HR2.out HG.out hy3
  have HB := Lib.hid hb
  have HV := Lib.hid hv
  have HR3 := Lib.hid hr3
  have HY3 : Hid (Only (fun k => k = g ∨ k = h) w w3) := Lib.hid (HY2.out.trans hy3 (fun i _ e => .inl e))
  have f := hb.frozen
  have c := hb.cell 6 _ rfl
  clear hb hv hr3 hy3
  go_wp2_with fail
  refine bodyPost_end (v := .tuple #[]) (results_none rfl _ _ _) rfl ?_
  exact RdPost.put (o' := (rdPart .budgets o rs).1) (V' := V3) HR3.out HB.out HV.out rfl HH.out HE.out HY3.out _
set_option maxHeartbeats 1000000 in
theorem rd_value (B g h : Nat) (rs : List UInt8) (o : OpV) (w : World) (hr : RS w B g rs) (ho : OS w B h o) (hg : B ≤ g) (hh : B ≤ h) :
    Calls Tryz.prog 226 #[.pointer (some ⟨g, 0, none⟩), .pointer (some ⟨h, 0, none⟩)] w (RdPost B g h (rdPart .value o rs) w) := by
  have hne := hr.ne ho
  have HR := Lib.hid hr
  have HO := Lib.hid ho
  have HG := Lib.hid hg
  have HH := Lib.hid hh
  have HE := Lib.hid hne
  clear hr ho hg hh hne
  go_enter Tryz.func226, Tryz.ntmps226
  go_wp2_with fail
  refine (number_rs B g rs 1 w HR.out HG.out (by omega)).mono ?_
  rintro e w1 ⟨rfl, hr1, hy1⟩
  have HO1 := Lib.hid (HO.out.only HR.out HG.out hy1)
  have HR1 := Lib.hid hr1
  have HY1 := Lib.hid hy1
  have hn := numBE_lt (takeP 1 rs)
  rw [takeP_length] at hn
  have HN := Lib.hid hn
  clear hr1 hy1 hn
  go_wp2_with fail
  refine (take_rs B g (rs.drop 1) (numBE (takeP 1 rs)) w1 HR1.out HG.out (by have := HN.out; omega)).mono ?_
  rintro e w2 ⟨v, rfl, hv, hr2, hy2⟩
  obtain ⟨V, hb, _⟩ := HO1.out.only HR1.out HG.out hy2
  obtain ⟨A, cap, rfl, _, _⟩ := own_form hv
  have HB := Lib.hid hb
  have hv2 := hv
  rw [show numBE (takeP 1 rs) = (takeP (numBE (takeP 1 rs)) (rs.drop 1)).length by rw [takeP_length]] at hv2
  rw [takeP_length] at hv2
  have HV : Hid (Bts w2 B 5 (.slice A (numBE (takeP 1 rs)) cap) (takeP (numBE (takeP 1 rs)) (rs.drop 1))) := Lib.hid (Bts.of_own (by rw [takeP_length]; exact hv) B)
  have HR2 := Lib.hid hr2
  have HY2 : Hid (Only (fun k => k = g) w w2) := Lib.hid (HY1.out.trans hy2 (fun i _ e => e))
  have f := hb.frozen
  have c := hb.cell 3 _ rfl
  clear hb hv hr2 hy2 hv2
  go_wp2_with fail
  refine bodyPost_end (v := .tuple #[]) (results_none rfl _ _ _) rfl ?_
  exact RdPost.put (o' := (rdPart .value o rs).1) HR2.out HB.out HV.out rfl HH.out HE.out HY2.out.or_l _
set_option maxHeartbeats 1000000 in
theorem rd_key (B g h : Nat) (rs : List UInt8) (o : OpV) (w : World) (hr : RS w B g rs) (ho : OS w B h o) (hg : B ≤ g) (hh : B ≤ h) :
    Calls Tryz.prog 224 #[.pointer (some ⟨g, 0, none⟩), .pointer (some ⟨h, 0, none⟩)] w (RdPost B g h (rdPart .key o rs) w) := by
  have hne := hr.ne ho
  have HR := Lib.hid hr
  have HO := Lib.hid ho
  have HG := Lib.hid hg
  have HH := Lib.hid hh
  have HE := Lib.hid hne
  clear hr ho hg hh hne
  go_enter Tryz.func224, Tryz.ntmps224
  go_wp2_with fail
  refine (number_rs B g rs 1 w HR.out HG.out (by omega)).mono ?_
  rintro e w1 ⟨rfl, hr1, hy1⟩
  have HO1 := Lib.hid (HO.out.only HR.out HG.out hy1)
  have HR1 := Lib.hid hr1
  have HY1 := Lib.hid hy1
  clear hr1 hy1
  go_wp2_with fail
  rw [show ((numBE (takeP 1 rs) : Int) % 32) = ((numBE (takeP 1 rs) % 32 : Nat) : Int) by omega]
  refine (take_rs B g (rs.drop 1) (numBE (takeP 1 rs) % 32) w1 HR1.out HG.out (by omega)).mono ?_
  rintro e w2 ⟨v, rfl, hv, hr2, hy2⟩
  obtain ⟨V, hb, hvv⟩ := HO1.out.only HR1.out HG.out hy2
  have hs := (Bts.of_own (bs := takeP (numBE (takeP 1 rs) % 32) (rs.drop 1)) (by rw [takeP_length]; exact hv) B).string (P := Tryz.prog) 39 9 Tryz.underlying39 Tryz.underlying5 Tryz.underlying9
  obtain ⟨A, cap, rfl, _, _⟩ := own_form hv
  have HB := Lib.hid hb
  have HV := Lib.hid hvv
  have HR2 := Lib.hid hr2
  have HY2 : Hid (Only (fun k => k = g) w w2) := Lib.hid (HY1.out.trans hy2 (fun i _ e => e))
  have f := hb.frozen
  have c := hb.cell 2 _ rfl
  clear hb hv hr2 hy2 hvv
  go_wp2_with fail
  refine bodyPost_end (v := .tuple #[]) (results_none rfl _ _ _) rfl ?_
  exact RdPost.put (o' := (rdPart .key o rs).1) HR2.out HB.out HV.out (by simp [opc, rdPart]) HH.out HE.out HY2.out.or_l _
/-- Every part is read so. -/
theorem rd_any (p : Part) (B g h : Nat) (rs : List UInt8) (o : OpV) (w : World) (hr : RS w B g rs) (ho : OS w B h o) (hg : B ≤ g) (hh : B ≤ h) :
    Calls Tryz.prog (rdF p) #[.pointer (some ⟨g, 0, none⟩), .pointer (some ⟨h, 0, none⟩)] w (RdPost B g h (rdPart p o rs) w) := by
  cases p with
  | key => exact rd_key B g h rs o w hr ho hg hh
  | value => exact rd_value B g h rs o w hr ho hg hh
  | ttl => exact rd_ttl B g h rs o w hr ho hg hh
  | budgets => exact rd_budgets B g h rs o w hr ho hg hh
  | aim => exact rd_aim B g h rs o w hr ho hg hh
  | birth => exact rd_birth B g h rs o w hr ho hg hh
end Go.Proofs.YtbcigelgggimmaaGreatDoor
namespace Go.Proofs.YtbcigelgggimmaaGreatDoor
open Go Go.RowKit
theorem mk2_run (w : World) : (Instr.makeSlice 39 (.int .i64 2) (.int .i64 2)).run Tryz.prog w = .ok (.slice (some ⟨w.heap.size, 0, none⟩) 2 2) (w.alloc (.cells #[.int .u8 0, .int .u8 0] 5)) := by kernel_rfl
theorem mk3_run (w : World) : (Instr.makeSlice 39 (.int .i64 3) (.int .i64 3)).run Tryz.prog w = .ok (.slice (some ⟨w.heap.size, 0, none⟩) 3 3) (w.alloc (.cells #[.int .u8 0, .int .u8 0, .int .u8 0] 5)) := by kernel_rfl
/-- A new row of bytes is handed back. -/
theorem OwnRet.of_blk {w w' : World} {k cap : Nat} {bs : List UInt8} (hb : Blk w' k 5 (bcells bs).toArray) (hk : w.heap.size ≤ k) (hl : bs.length ≤ 1000000) (hbe : Below w.heap.size w w') (hc : cap = bs.length) :
    OwnRet bs w (.returned (.slice (some ⟨k, 0, none⟩) bs.length cap)) w' := by
  subst hc
  exact ⟨_, rfl, ⟨by rw [bcells_length, Nat.mul_one], .inr ⟨_, _, _, rfl, hk, hb, Nat.le_refl _, by unfold maxLen; omega, by simp [bcells], by rw [Nat.mul_one]; exact List.take_of_length_le (by simp [bcells])⟩⟩, hbe⟩
set_option maxHeartbeats 1000000 in
theorem big2_any (x : Int) (w : World) : Calls Tryz.prog 230 #[.int .i64 x, .int .i64 2] w (OwnRet (big2 x) w) := by
  have hm := mk2_run w
  obtain ⟨w1, hw1⟩ : ∃ w1, w.alloc (.cells #[.int .u8 0, .int .u8 0] 5) = w1 := ⟨_, rfl⟩
  have hb : Blk w1 w.heap.size 5 #[.int .u8 0, .int .u8 0] := hw1 ▸ Blk.new _ _ _
  have hbe : Below w.heap.size w w1 := hw1 ▸ (Below.refl _ _).alloc (Nat.le_refl _) _
  rw [hw1] at hm
  have f := hb.frozen
  have HB := Lib.hid hb
  have HE := Lib.hid hbe
  have c0 : w1.cell? ⟨w.heap.size, 0, none⟩ = some (.int .u8 0) := hb.cell 0 _ rfl
  have c1 : w1.cell? ⟨w.heap.size, 1, none⟩ = some (.int .u8 0) := hb.cell 1 _ rfl
  clear hb hbe hw1
  go_enter Tryz.func230, Tryz.ntmps230
  go_wp2
  refine wp_loop_rounds 3 ?_
  rw [rounds_succ]; go_wp2
  rw [rounds_succ]; go_wp2
  rw [rounds_succ]; go_wp2
  go_ret
  refine OwnRet.of_blk (bs := big2 x) (k := w.heap.size) ?_ (Nat.le_refl _) (by simp [big2]) ?_ rfl
  · have h := (HB.out.set_ 1 (.int .u8 (x % 256))).set_ 0 (.int .u8 (x / 256 % 256))
    have e : (bcells (big2 x)).toArray = (#[Value.int .u8 0, .int .u8 0].setIfInBounds 1 (.int .u8 (x % 256))).setIfInBounds 0 (.int .u8 (x / 256 % 256)) := by
      simp [big2, bcells, byteI_toNat]
    rw [e]; exact h
  · exact (HE.out.setCell (p := ⟨w.heap.size, 1, none⟩) (Nat.le_refl _) _).setCell (p := ⟨w.heap.size, 0, none⟩) (Nat.le_refl _) _
set_option maxHeartbeats 1000000 in
theorem big3_any (x : Int) (w : World) : Calls Tryz.prog 230 #[.int .i64 x, .int .i64 3] w (OwnRet (big3 x) w) := by
  have hm := mk3_run w
  obtain ⟨w1, hw1⟩ : ∃ w1, w.alloc (.cells #[.int .u8 0, .int .u8 0, .int .u8 0] 5) = w1 := ⟨_, rfl⟩
  have hb : Blk w1 w.heap.size 5 #[.int .u8 0, .int .u8 0, .int .u8 0] := hw1 ▸ Blk.new _ _ _
  have hbe : Below w.heap.size w w1 := hw1 ▸ (Below.refl _ _).alloc (Nat.le_refl _) _
  rw [hw1] at hm
  have f := hb.frozen
  have HB := Lib.hid hb
  have HE := Lib.hid hbe
  have c0 : w1.cell? ⟨w.heap.size, 0, none⟩ = some (.int .u8 0) := hb.cell 0 _ rfl
  have c1 : w1.cell? ⟨w.heap.size, 1, none⟩ = some (.int .u8 0) := hb.cell 1 _ rfl
  have c2 : w1.cell? ⟨w.heap.size, 2, none⟩ = some (.int .u8 0) := hb.cell 2 _ rfl
  clear hb hbe hw1
  go_enter Tryz.func230, Tryz.ntmps230
  go_wp2
  refine wp_loop_rounds 4 ?_
  rw [rounds_succ]; go_wp2
  rw [rounds_succ]; go_wp2
  rw [rounds_succ]; go_wp2
  rw [rounds_succ]; go_wp2
  go_ret
  refine OwnRet.of_blk (bs := big3 x) (k := w.heap.size) ?_ (Nat.le_refl _) (by simp [big3]) ?_ rfl
  · have h := ((HB.out.set_ 2 (.int .u8 (x % 256))).set_ 1 (.int .u8 (x / 256 % 256))).set_ 0 (.int .u8 (x / 65536 % 256))
    have e : (bcells (big3 x)).toArray = ((#[Value.int .u8 0, .int .u8 0, .int .u8 0].setIfInBounds 2 (.int .u8 (x % 256))).setIfInBounds 1 (.int .u8 (x / 256 % 256))).setIfInBounds 0 (.int .u8 (x / 65536 % 256)) := by
      simp [big3, bcells, byteI_toNat]
    rw [e]; exact h
  · exact ((HE.out.setCell (p := ⟨w.heap.size, 2, none⟩) (Nat.le_refl _) _).setCell (p := ⟨w.heap.size, 1, none⟩) (Nat.le_refl _) _).setCell (p := ⟨w.heap.size, 0, none⟩) (Nat.le_refl _) _
/-- A part is written from a copy of the operation in a box of its own. -/
theorem OwnRet.boxed {bs : List UInt8} {w : World} {o : Obj} {e : Ending} {w' : World} (h : OwnRet bs (w.alloc o) e w') : OwnRet bs w e w' := by
  obtain ⟨v, rfl, h1, h2⟩ := h
  exact ⟨v, rfl, ownsRow_base h1 (by simp), below_own h2⟩
def wrF : Part → Nat
  | .key => 225
  | .value => 227
  | .ttl => 229
  | .budgets => 232
  | .aim => 234
  | .birth => 236
set_option maxHeartbeats 1000000 in
theorem wr_ttl (o : OpV) (V : Value) (w : World) : Calls Tryz.prog 229 #[opv o V] w (OwnRet (wrPart .ttl o) w) := by
  unfold opv opc
  go_enter Tryz.func229, Tryz.ntmps229
  go_wp2_with fail
  refine (big2_any _ _).mono ?_
  rintro e w1 ⟨v, rfl, h1, h2⟩
  go_wp2_with fail
  go_ret
  exact OwnRet.boxed ⟨_, rfl, h1, h2⟩
set_option maxHeartbeats 1000000 in
theorem wr_birth (o : OpV) (V : Value) (w : World) : Calls Tryz.prog 236 #[opv o V] w (OwnRet (wrPart .birth o) w) := by
  unfold opv opc
  go_enter Tryz.func236, Tryz.ntmps236
  go_wp2_with fail
  refine (big2_any _ _).mono ?_
  rintro e w1 ⟨v, rfl, h1, h2⟩
  go_wp2_with fail
  go_ret
  exact OwnRet.boxed ⟨_, rfl, h1, h2⟩
set_option maxHeartbeats 1000000 in
theorem wr_aim (o : OpV) (V : Value) (w : World) : Calls Tryz.prog 234 #[opv o V] w (OwnRet (wrPart .aim o) w) := by
  unfold opv opc
  go_enter Tryz.func234, Tryz.ntmps234
  go_wp2_with fail
  go_ret
  refine OwnRet.boxed (OwnRet.of_blk (bs := [byteI o.cursor]) ?_ (by simp) (by simp) ((Below.refl _ _).alloc (Nat.le_refl _) _) rfl)
  have := Blk.new (w.alloc (.cells #[.int .i64 o.kind, .int .u64 o.ticks, .string o.key, V, .int .u64 o.ttl, .int .i64 o.count, .int .i64 o.bytes, .int .i64 o.cursor, .int .u64 o.birth] 41)) 5 #[.int .u8 (o.cursor % 256)]
  simpa [bcells, byteI_toNat] using this
theorem own_one (w : World) (e : TypeId) (u : Value) : (w.alloc (.cells #[u] e)).ownsRow w.heap.size e 1 (.slice (some ⟨w.heap.size, 0, none⟩) 1 1) 1 [u] :=
  World.ownsRow_lit w #[u] 1 (Nat.le_refl _) (by unfold maxLen; omega) (by simp)
/-- What was appended to a new row is handed back. -/
theorem OwnRet.of_append {w w0 w1 : World} {bs : List UInt8} {v : Value} {n : Nat} {u : Obj} (h0 : Below w.heap.size w w0) (hs : w.heap.size ≤ w0.heap.size) (hg : (w0.alloc u).grownBy w1 (some w0.heap.size)) (ho : w1.ownsRow w0.heap.size 5 1 v n (bcells bs)) (hn : n = bs.length) :
    OwnRet bs w (.returned v) w1 := by
  subst hn
  exact ⟨v, rfl, ownsRow_base ho hs, (h0.alloc hs _).grown hg (by simp; omega) (by intro k hk; cases hk; exact hs)⟩
theorem cell_drewT {W : World} {a : Addr} {v : Value} (h : W.cell? a = some v) : W.drew.cell? a = some v := h
theorem len23 (o : OpV) : (big2 o.count).length + (big3 o.bytes).length ≤ maxLen := by simp [big2, big3, maxLen]
theorem len23' (o : OpV) : ((big2 o.count).length + (big3 o.bytes).length) * 1 ≤ 140737488355328 := by simp [big2, big3]
theorem Blk.grown {w w' : World} {g : Nat} {t : TypeId} {cs : Array Value} {row : Option Nat} (h : Blk w g t cs) (hb : w.grownBy w' row) (hg : some g ≠ row) : Blk w' g t cs := (hb.block g h.lt hg).trans h
theorem own_later {w w' : World} {base : Nat} {e : TypeId} {size : Nat} {v : Value} {n : Nat} {xs : List Value} (h : w.ownsRow base e size v n xs) (hb : Below w.heap.size w w') : w'.ownsRow base e size v n xs :=
  ownsRow_only h (S := fun _ => False) (Only.of_below hb) (fun _ _ h => h)
theorem own_block_ne {w : World} {base : Nat} {e : TypeId} {size : Nat} {v : Value} {n : Nat} {xs : List Value} (h : w.ownsRow base e size v n xs) {k : Nat} (hk : k < base) : some k ≠ v.ownBlock := fun e => by
  have := (h.lt k e.symm).1
  omega
theorem strCells_b (s : ByteArray) : Lib.strCells s = bcells s.data.toList := rfl
theorem byteI_cell (x : Int) : Value.int .u8 (x % 256) = .int .u8 ((byteI x).toNat : Int) := by rw [byteI_toNat]
set_option maxHeartbeats 1000000 in
theorem wr_key (o : OpV) (V : Value) (w : World) (hk : o.key.size ≤ 1000000) : Calls Tryz.prog 225 #[opv o V] w (OwnRet (wrPart .key o) w) := by
  obtain ⟨i0, hi0, hz0, hz1, hz2⟩ := info_parts u8_info
  have HK := Lib.hid hk
  clear hk
  unfold opv opc
  obtain ⟨w0, hw0⟩ : ∃ w0, w.alloc (.cells #[.int .i64 o.kind, .int .u64 o.ticks, .string o.key, V, .int .u64 o.ttl, .int .i64 o.count, .int .i64 o.bytes, .int .i64 o.cursor, .int .u64 o.birth] 41) = w0 := ⟨_, rfl⟩
  have hsz : w0.heap.size = w.heap.size + 1 := by rw [← hw0]; simp
  have hbe : Below w.heap.size w w0 := hw0 ▸ (Below.refl _ _).alloc (Nat.le_refl _) _
  have hbx : Blk w0 w.heap.size 41 (opc o V) := hw0 ▸ Blk.new _ _ _
  have HS := Lib.hid hsz
  have HE := Lib.hid hbe
  have c2 : w0.cell? ⟨w.heap.size, 2, none⟩ = some (.string o.key) := hbx.cell 2 _ rfl
  have c2' : ∀ ob, (w0.alloc ob).cell? ⟨w.heap.size, 2, none⟩ = some (.string o.key) := fun ob => (hbx.alloc ob).cell 2 _ rfl
  clear hsz hbe hbx
  go_enter Tryz.func225, Tryz.ntmps225
  go_upto_region 1 with fail
  try rw [hw0]
  clear hw0
  go_wp2_with (at_builtin; refine Lib.wpList_append_own_string _ rfl _ _ _ _ rfl w0.heap.size 5 i0 Tryz.underlying39 Tryz.underlying9 hi0 hz0 hz1 hz2 _ 1 [.int .u8 ((o.key.size : Int) % 256)] rfl (own_one w0 _ _) o.key rfl (by have := HK.out; unfold maxLen; omega) (by have := HK.out; omega) (by simp) ?_; intro v1 w1 hown hg hat)
  go_ret
  refine OwnRet.of_append (bs := wrPart .key o) HE.out (by rw [HS.out]; omega) hg (n := 1 + o.key.size) ?_ ?_
  · rw [byteI_cell, strCells_b] at hown
    exact hown
  · simp [wrPart]; exact Nat.add_comm _ _
set_option maxHeartbeats 1000000 in
theorem wr_value (B : Nat) (o : OpV) (V : Value) (w : World) (hv : Bts w B 5 V o.val) (hk : o.val.length ≤ 1000000) : Calls Tryz.prog 227 #[opv o V] w (OwnRet (wrPart .value o) w) := by
  obtain ⟨i0, hi0, hz0, hz1, hz2⟩ := info_parts u8_info
  obtain ⟨A, cap, rfl⟩ := hv.form
  have HK := Lib.hid hk
  have HV := Lib.hid hv
  clear hk hv
  unfold opv opc
  obtain ⟨w0, hw0⟩ : ∃ w0, w.alloc (.cells #[.int .i64 o.kind, .int .u64 o.ticks, .string o.key, (Value.slice A o.val.length cap), .int .u64 o.ttl, .int .i64 o.count, .int .i64 o.bytes, .int .i64 o.cursor, .int .u64 o.birth] 41) = w0 := ⟨_, rfl⟩
  have hsz : w0.heap.size = w.heap.size + 1 := by rw [← hw0]; simp
  have hbe : Below w.heap.size w w0 := hw0 ▸ (Below.refl _ _).alloc (Nat.le_refl _) _
  have hbx : Blk w0 w.heap.size 41 (opc o (Value.slice A o.val.length cap)) := hw0 ▸ Blk.new _ _ _
  have HS := Lib.hid hsz
  have HE := Lib.hid hbe
  have hv0 : Bts w0 B 5 (.slice A o.val.length cap) o.val := HV.out.below hbe
  have HV0 := Lib.hid hv0
  have c3 : w0.cell? ⟨w.heap.size, 3, none⟩ = some (.slice A o.val.length cap) := hbx.cell 3 _ rfl
  have c3' : ∀ ob, (w0.alloc ob).cell? ⟨w.heap.size, 3, none⟩ = some (.slice A o.val.length cap) := fun ob => (hbx.alloc ob).cell 3 _ rfl
  clear hsz hbe hbx hv0
  go_enter Tryz.func227, Tryz.ntmps227
  go_upto_region 1 with fail
  try rw [hw0]
  clear hw0
  go_wp2_with (at_builtin; refine wpList_append_src _ rfl _ _ _ rfl w0.heap.size 5 i0 _ 1 1 Tryz.underlying39 hi0 hz0 hz1 hz2 rfl (by decide) _ 1 [.int .u8 ((o.val.length : Int) % 256)] rfl (own_one w0 _ _) A o.val.length cap (bcells o.val) rfl (HV0.out.alloc _).src_at.2 (bcells_one _) (by have := HK.out; unfold maxLen; omega) (by have := HK.out; omega) (by simp) ?_; intro v1 w1 hown hg hat)
  go_ret
  refine OwnRet.of_append (bs := wrPart .value o) HE.out (by rw [HS.out]; omega) hg (n := 1 + o.val.length) ?_ ?_
  · rw [byteI_cell] at hown
    exact hown
  · simp [wrPart]; omega
set_option maxHeartbeats 1000000 in
theorem wr_budgets (o : OpV) (V : Value) (w : World) : Calls Tryz.prog 232 #[opv o V] w (OwnRet (wrPart .budgets o) w) := by
  obtain ⟨i0, hi0, hz0, hz1, hz2⟩ := info_parts u8_info
  unfold opv opc
  obtain ⟨w0, hw0⟩ : ∃ w0, w.alloc (.cells #[.int .i64 o.kind, .int .u64 o.ticks, .string o.key, V, .int .u64 o.ttl, .int .i64 o.count, .int .i64 o.bytes, .int .i64 o.cursor, .int .u64 o.birth] 41) = w0 := ⟨_, rfl⟩
  have hsz : w0.heap.size = w.heap.size + 1 := by rw [← hw0]; simp
  have hbe : Below w.heap.size w w0 := hw0 ▸ (Below.refl _ _).alloc (Nat.le_refl _) _
  have hbx : Blk w0 w.heap.size 41 (opc o V) := hw0 ▸ Blk.new _ _ _
  have HS := Lib.hid hsz
  have HE := Lib.hid hbe
  have c5 : w0.cell? ⟨w.heap.size, 5, none⟩ = some (.int .i64 o.count) := hbx.cell 5 _ rfl
  have c6 : w0.cell? ⟨w.heap.size, 6, none⟩ = some (.int .i64 o.bytes) := hbx.cell 6 _ rfl
  have HX := Lib.hid hbx
  clear hsz hbe hbx
  go_enter Tryz.func232, Tryz.ntmps232
  go_upto_region 1 with fail
  try rw [hw0]
  clear hw0
  go_region_held3 (fun w' => w'.cell? ⟨w.heap.size, 5, none⟩ = some (.int .i64 o.count) ∧ w'.cell? ⟨w.heap.size, 6, none⟩ = some (.int .i64 o.bytes)) (first | with_reducible exact ⟨cell_drewT c5, cell_drewT c6⟩ | with_reducible exact ⟨d5, d6⟩ | with_reducible exact ⟨e5, e6⟩ | with_reducible exact ⟨g5, g6⟩ | fail)
    ((first
      | (have hq := HB1.out; clear hq; go_at_call 230; refine (big3_any o.bytes _).mono ?_; rintro e w2 ⟨v2, rfl, ho2, hb2⟩; obtain ⟨A2, k2, rfl, _, _⟩ := own_form ho2; have hx2 := HX1.out.below hb2; have e5 : w2.cell? ⟨w.heap.size, 5, none⟩ = some (.int .i64 o.count) := hx2.cell 5 _ rfl; have e6 : w2.cell? ⟨w.heap.size, 6, none⟩ = some (.int .i64 o.bytes) := hx2.cell 6 _ rfl; have HO2 := Lib.hid ho2; have HB2 := Lib.hid hb2; have HX2 := Lib.hid hx2; clear ho2 hb2 hx2)
      | (go_at_call 230; refine (big2_any o.count _).mono ?_; rintro e w1 ⟨v1, rfl, ho1, hb1⟩; obtain ⟨A1, k1, rfl, _, _⟩ := own_form ho1; have hx1 := HX.out.drew.below hb1; have d5 : w1.cell? ⟨w.heap.size, 5, none⟩ = some (.int .i64 o.count) := hx1.cell 5 _ rfl; have d6 : w1.cell? ⟨w.heap.size, 6, none⟩ = some (.int .i64 o.bytes) := hx1.cell 6 _ rfl; have HO1 := Lib.hid ho1; have HB1 := Lib.hid (below_drew hb1); have HX1 := Lib.hid hx1; clear ho1 hb1 hx1)
      | (have hq := HB2.out; clear hq; refine step_append_src _ rfl (.tmp 5) (.tmp 8) 39 rfl w0.heap.size 5 i0 _ 1 1 Tryz.underlying39 hi0 hz0 hz1 hz2 rfl (by decide) _ (big2 o.count).length (bcells (big2 o.count)) rfl (own_later HO1.out HB2.out) A2 (big3 o.bytes).length k2 (bcells (big3 o.bytes)) rfl (Bts.of_own HO2.out w0.heap.size).src_at.2 (bcells_one _) (len23 o) (len23' o) (Nat.le_trans HB1.out.size HB2.out.size) ?_; intro v3 w3 hown hg hat; have hx3 := HX2.out.grown hg (own_block_ne HO1.out HX.out.drew.lt); have g5 : w3.cell? ⟨w.heap.size, 5, none⟩ = some (.int .i64 o.count) := hx3.cell 5 _ rfl; have g6 : w3.cell? ⟨w.heap.size, 6, none⟩ = some (.int .i64 o.bytes) := hx3.cell 6 _ rfl)))
  all_goals
    go_wp2
    go_ret
    have hs2 : w0.heap.size ≤ w2.heap.size := Nat.le_trans HB1.out.size HB2.out.size
    have hb : Below w.heap.size w w2 := HE.out.trans ((HB1.out.trans (HB2.out.mono HB1.out.size)).mono (by show w.heap.size ≤ w0.heap.size; rw [HS.out]; omega))
    refine ⟨_, rfl, ?_, ?_⟩
    · have h := ownsRow_base hown (show w.heap.size ≤ w0.heap.size by rw [HS.out]; omega)
      have e : bcells (big2 o.count) ++ bcells (big3 o.bytes) = bcells (wrPart .budgets o) := by simp [wrPart, bcells]
      rw [e] at h
      exact h
    · exact hb.grown hg hb.size (by intro k hk; have := (HO1.out.lt k hk).1; rw [show w0.drew.heap.size = w0.heap.size from rfl, HS.out] at this; omega)
/-- An operation's value is a slice of bytes; its lengths are small. -/
structure OpOk (w : World) (B : Nat) (o : OpV) (V : Value) : Prop where
  val : Bts w B 5 V o.val
  klen : o.key.size ≤ 1000000
  vlen : o.val.length ≤ 1000000
/-- Every part is written so. -/
theorem wr_any (p : Part) (B : Nat) (o : OpV) (V : Value) (w : World) (h : OpOk w B o V) : Calls Tryz.prog (wrF p) #[opv o V] w (OwnRet (wrPart p o) w) := by
  cases p with
  | key => exact wr_key o V w h.klen
  | value => exact wr_value B o V w h.val h.vlen
  | ttl => exact wr_ttl o V w
  | budgets => exact wr_budgets o V w
  | aim => exact wr_aim o V w
  | birth => exact wr_birth o V w
end Go.Proofs.YtbcigelgggimmaaGreatDoor
namespace Go.Proofs.YtbcigelgggimmaaGreatDoor
open Go Go.RowKit
def partV (p : Part) : List Value := [.func (.func (rdF p)) #[] #[], .func (.func (wrF p)) #[] #[]]
def pcells (ps : List Part) : List Value := ps.flatMap partV
def mkF : Part → Nat
  | .key => 154
  | .value => 155
  | .ttl => 156
  | .budgets => 157
  | .aim => 158
  | .birth => 159
theorem mk_key (w : World) : Calls Tryz.prog 154 #[] w fun e w' => e = .returned (.agg (partV .key).toArray) ∧ Below w.heap.size w w' := by
  go_enter Tryz.func154, Tryz.ntmps154
  go_wp2_with fail
  refine bodyPost_ret (v := .agg (partV .key).toArray) (by simp [results, Tryz.results154, go_sem, partV, rdF, wrF]) rfl ⟨rfl, ?_⟩
  exact (Below.refl _ _).alloc (Nat.le_refl _) _
theorem mk_value (w : World) : Calls Tryz.prog 155 #[] w fun e w' => e = .returned (.agg (partV .value).toArray) ∧ Below w.heap.size w w' := by
  go_enter Tryz.func155, Tryz.ntmps155
  go_wp2_with fail
  refine bodyPost_ret (v := .agg (partV .value).toArray) (by simp [results, Tryz.results155, go_sem, partV, rdF, wrF]) rfl ⟨rfl, ?_⟩
  exact (Below.refl _ _).alloc (Nat.le_refl _) _
theorem mk_ttl (w : World) : Calls Tryz.prog 156 #[] w fun e w' => e = .returned (.agg (partV .ttl).toArray) ∧ Below w.heap.size w w' := by
  go_enter Tryz.func156, Tryz.ntmps156
  go_wp2_with fail
  refine bodyPost_ret (v := .agg (partV .ttl).toArray) (by simp [results, Tryz.results156, go_sem, partV, rdF, wrF]) rfl ⟨rfl, ?_⟩
  exact (Below.refl _ _).alloc (Nat.le_refl _) _
theorem mk_budgets (w : World) : Calls Tryz.prog 157 #[] w fun e w' => e = .returned (.agg (partV .budgets).toArray) ∧ Below w.heap.size w w' := by
  go_enter Tryz.func157, Tryz.ntmps157
  go_wp2_with fail
  refine bodyPost_ret (v := .agg (partV .budgets).toArray) (by simp [results, Tryz.results157, go_sem, partV, rdF, wrF]) rfl ⟨rfl, ?_⟩
  exact (Below.refl _ _).alloc (Nat.le_refl _) _
theorem mk_aim (w : World) : Calls Tryz.prog 158 #[] w fun e w' => e = .returned (.agg (partV .aim).toArray) ∧ Below w.heap.size w w' := by
  go_enter Tryz.func158, Tryz.ntmps158
  go_wp2_with fail
  refine bodyPost_ret (v := .agg (partV .aim).toArray) (by simp [results, Tryz.results158, go_sem, partV, rdF, wrF]) rfl ⟨rfl, ?_⟩
  exact (Below.refl _ _).alloc (Nat.le_refl _) _
theorem mk_birth (w : World) : Calls Tryz.prog 159 #[] w fun e w' => e = .returned (.agg (partV .birth).toArray) ∧ Below w.heap.size w w' := by
  go_enter Tryz.func159, Tryz.ntmps159
  go_wp2_with fail
  refine bodyPost_ret (v := .agg (partV .birth).toArray) (by simp [results, Tryz.results159, go_sem, partV, rdF, wrF]) rfl ⟨rfl, ?_⟩
  exact (Below.refl _ _).alloc (Nat.le_refl _) _
/-- The parts of a kind, in a new row. -/
def PartsRet (ps : List Part) (w : World) (e : Ending) (w' : World) : Prop :=
  ∃ v, e = .returned v ∧ w'.ownsRow w.heap.size 164 2 v ps.length (pcells ps) ∧ Below w.heap.size w w'
theorem PartsRet.of_row {ps : List Part} {w wx : World} {cs : Array Value} (hb : Below w.heap.size w wx) (hc : cs = (pcells ps).toArray) (hl : ps.length ≤ 3) :
    PartsRet ps w (.returned (.slice (some ⟨wx.heap.size, 0, none⟩) ps.length ps.length)) (wx.alloc (.cells cs 164)) := by
  subst hc
  refine ⟨_, rfl, ?_, hb.alloc hb.size _⟩
  have hs : (pcells ps).toArray.size = ps.length * 2 := by
    have : ∀ l : List Part, (pcells l).length = l.length * 2 := by
      intro l
      induction l with
      | nil => rfl
      | cons p l ih => rw [show pcells (p :: l) = partV p ++ pcells l from rfl, List.length_append, ih, List.length_cons]; simp [partV]; omega
    simpa using this ps
  have := World.ownsRow_lit (base := w.heap.size) (e := 164) (size := 2) wx (pcells ps).toArray ps.length hb.size (by unfold maxLen; omega) hs
  simpa using this
set_option maxHeartbeats 1000000 in
theorem parts_any (k : Int) (w : World) : Calls Tryz.prog 102 #[.int .i64 k] w (PartsRet (partsOf k) w) := by
  rcases (by omega : k = 3 ∨ k = 4 ∨ k = 6 ∨ k = 1 ∨ k = 2 ∨ k = 5 ∨ k = 8 ∨ k = 12 ∨ k = 14 ∨ k = 13 ∨ (k ≠ 3 ∧ k ≠ 4 ∧ k ≠ 6 ∧ k ≠ 1 ∧ k ≠ 2 ∧ k ≠ 5 ∧ k ≠ 8 ∧ k ≠ 12 ∧ k ≠ 14 ∧ k ≠ 13)) with hk | hk | hk | hk | hk | hk | hk | hk | hk | hk | hk
  · subst hk
    go_enter Tryz.func102, Tryz.ntmps102
    go_wp2_with fail
    refine (mk_key _).mono ?_
    rintro e w1 ⟨rfl, h1⟩
    simp only [partV]
    go_wp2_with fail
    go_ret
    exact PartsRet.of_row (ps := [.key]) h1 rfl (by decide)
  · subst hk
    go_enter Tryz.func102, Tryz.ntmps102
    go_wp2_with fail
    refine (mk_key _).mono ?_
    rintro e w1 ⟨rfl, h1⟩
    simp only [partV]
    go_wp2_with fail
    go_ret
    exact PartsRet.of_row (ps := [.key]) h1 rfl (by decide)
  · subst hk
    go_enter Tryz.func102, Tryz.ntmps102
    go_wp2_with fail
    refine (mk_key _).mono ?_
    rintro e w1 ⟨rfl, h1⟩
    simp only [partV]
    go_wp2_with fail
    go_ret
    exact PartsRet.of_row (ps := [.key]) h1 rfl (by decide)
  · subst hk
    go_enter Tryz.func102, Tryz.ntmps102
    go_wp2_with fail
    refine (mk_key _).mono ?_
    rintro e w1 ⟨rfl, h1⟩
    simp only [partV]
    go_wp2_with fail
    refine (mk_value _).mono ?_
    rintro e w2 ⟨rfl, h2⟩
    have h2 := h1.trans (h2.mono h1.size)
    clear h1
    simp only [partV]
    go_wp2_with fail
    go_ret
    exact PartsRet.of_row (ps := [.key, .value]) h2 rfl (by decide)
  · subst hk
    go_enter Tryz.func102, Tryz.ntmps102
    go_wp2_with fail
    refine (mk_key _).mono ?_
    rintro e w1 ⟨rfl, h1⟩
    simp only [partV]
    go_wp2_with fail
    refine (mk_value _).mono ?_
    rintro e w2 ⟨rfl, h2⟩
    have h2 := h1.trans (h2.mono h1.size)
    clear h1
    simp only [partV]
    go_wp2_with fail
    refine (mk_ttl _).mono ?_
    rintro e w3 ⟨rfl, h3⟩
    have h3 := h2.trans (h3.mono h2.size)
    clear h2
    simp only [partV]
    go_wp2_with fail
    go_ret
    exact PartsRet.of_row (ps := [.key, .value, .ttl]) h3 rfl (by decide)
  · subst hk
    go_enter Tryz.func102, Tryz.ntmps102
    go_wp2_with fail
    refine (mk_key _).mono ?_
    rintro e w1 ⟨rfl, h1⟩
    simp only [partV]
    go_wp2_with fail
    refine (mk_ttl _).mono ?_
    rintro e w2 ⟨rfl, h2⟩
    have h2 := h1.trans (h2.mono h1.size)
    clear h1
    simp only [partV]
    go_wp2_with fail
    go_ret
    exact PartsRet.of_row (ps := [.key, .ttl]) h2 rfl (by decide)
  · subst hk
    go_enter Tryz.func102, Tryz.ntmps102
    go_wp2_with fail
    refine (mk_budgets _).mono ?_
    rintro e w1 ⟨rfl, h1⟩
    simp only [partV]
    go_wp2_with fail
    go_ret
    exact PartsRet.of_row (ps := [.budgets]) h1 rfl (by decide)
  · subst hk
    go_enter Tryz.func102, Tryz.ntmps102
    go_wp2_with fail
    refine (mk_aim _).mono ?_
    rintro e w1 ⟨rfl, h1⟩
    simp only [partV]
    go_wp2_with fail
    go_ret
    exact PartsRet.of_row (ps := [.aim]) h1 rfl (by decide)
  · subst hk
    go_enter Tryz.func102, Tryz.ntmps102
    go_wp2_with fail
    refine (mk_aim _).mono ?_
    rintro e w1 ⟨rfl, h1⟩
    simp only [partV]
    go_wp2_with fail
    go_ret
    exact PartsRet.of_row (ps := [.aim]) h1 rfl (by decide)
  · subst hk
    go_enter Tryz.func102, Tryz.ntmps102
    go_wp2_with fail
    refine (mk_aim _).mono ?_
    rintro e w1 ⟨rfl, h1⟩
    simp only [partV]
    go_wp2_with fail
    refine (mk_birth _).mono ?_
    rintro e w2 ⟨rfl, h2⟩
    have h2 := h1.trans (h2.mono h1.size)
    clear h1
    simp only [partV]
    go_wp2_with fail
    go_ret
    exact PartsRet.of_row (ps := [.aim, .birth]) h2 rfl (by decide)
  · obtain ⟨k1, k2, k3, k4, k5, k6, k7, k8, k9, k10⟩ := hk
    have e1 : (k == 3) = false := by simpa using k1
    have e2 : (k == 4) = false := by simpa using k2
    have e3 : (k == 6) = false := by simpa using k3
    have e4 : (k == 1) = false := by simpa using k4
    have e5 : (k == 2) = false := by simpa using k5
    have e6 : (k == 5) = false := by simpa using k6
    have e7 : (k == 8) = false := by simpa using k7
    have e8 : (k == 12) = false := by simpa using k8
    have e9 : (k == 14) = false := by simpa using k9
    have e10 : (k == 13) = false := by simpa using k10
    have hp : partsOf k = [] := by simp [partsOf, k1, k2, k3, k4, k5, k6, k7, k8, k9, k10]
    rw [hp]
    clear hp
    go_enter Tryz.func102, Tryz.ntmps102
    go_wp2_with fail
    go_ret
    exact ⟨_, rfl, World.ownsRow_nil _ _ _ _, Below.refl _ _⟩
end Go.Proofs.YtbcigelgggimmaaGreatDoor

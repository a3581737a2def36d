/- A region that draws its order and ends in stores: what the loads read must hold only until the first store. No program in sight. -/
import Derived.Test.YtffigmciclopdaaDoorBase
import Derived.Deep.RegionHeld3
import Derived.StillTail
namespace Go.Proofs.YtffigmciclopdaaDoor
open Go Go.RowKit

section
variable {P : Program} {ops : Array Oper} {Q : Exit → Act → World → Prop} {md : Region.Mode} {q : List Nat} {R S : World → Prop}

/-- None of the operations q has come up. -/
def Unstored (q : List Nat) (listed : Array Bool) : Prop := ∀ s ∈ q, listed.getD s true = false
/-- S holds, and as long as none of them has come up, R holds. -/
def Till (q : List Nat) (R S : World → Prop) (listed : Array Bool) (w : World) : Prop := S w ∧ (Unstored q listed → R w)

theorem Till.of {listed : Array Bool} {w : World} (hs : S w) (h : R w) : Till q R S listed w := ⟨hs, fun _ => h⟩
theorem Till.stored {listed : Array Bool} {w : World} (hs : S w) (h : q.any (fun s => listed.getD s true) = true) : Till q R S listed w := ⟨hs, fun hu => by
  obtain ⟨s, hm, hl⟩ := List.any_eq_true.1 h
  rw [hu s hm] at hl
  cases hl⟩
theorem Unstored.set {listed : Array Bool} {j : Nat} (h : Unstored q listed) (hj : j ∉ q) : Unstored q (listed.setIfInBounds j true) := fun s hs => by
  rw [getD_set_ne true (fun e => hj (by rw [e]; exact hs))]; exact h s hs
theorem Unstored.back {listed : Array Bool} {j : Nat} (h : Unstored q (listed.setIfInBounds j true)) (hj : j ∉ q) : Unstored q listed := fun s hs => by
  have := h s hs
  rwa [getD_set_ne true (fun e => hj (by rw [e]; exact hs))] at this

/-- Whatever order is picked from here on; behind each operation R holds as long as it is wanted. -/
def wpTill (P : Program) (md : Region.Mode) (ops : Array Oper) (Q : Exit → Act → World → Prop) (q : List Nat) (R S : World → Prop) : Nat → Array Bool → Act → World → Prop
  | 0, listed, a, w => Region.ready md ops listed = [] ∧ Q .normal a w
  | n + 1, listed, a, w => (Region.ready md ops listed = [] → Q .normal a w) ∧
    ∀ j ∈ Region.ready md ops listed, wpOp P ops Q j (fun b x => Till q R S (listed.setIfInBounds j true) x ∧ wpTill P md ops Q q R S n (listed.setIfInBounds j true) b x) a w

theorem wpTill.any : ∀ (n : Nat) {listed : Array Bool} {a : Act} {w : World}, wpTill P md ops Q q R S n listed a w → wpAny P md ops Q n listed a w
  | 0, _, _, _, h => h
  | n + 1, _, _, _, h => ⟨h.1, fun j hj => wpOp_mono (fun _ _ k => wpTill.any n k.2) (h.2 j hj)⟩

/-- The operation i, none of q, may be taken first: it yields v in every world that meets T, and T is there as long as i has not come up (I says why). -/
theorem wpTill.first {i : Nat} {o : Oper} {v : Value} {T : World → Prop} {I : Array Bool → Prop} (ho : ops[i]? = some o) (hiq : i ∉ q) (hsel : Region.noSelect ops = true)
    (hT : ∀ listed w, I listed → Till q R S listed w → T w) (hI : ∀ listed j, I listed → listed.getD i true = false → j ∈ Region.ready md ops listed → j ≠ i → I (listed.setIfInBounds j true))
    (hQ : ∀ c a w, Q (.panic c) (a.put o.dst v) w → Q (.panic c) a w) (n : Nat) :
    ∀ {listed : Array Bool} {a : Act} {w : World},
      (∀ j oj, ops[j]? = some oj → j ≠ i → listed.getD j true = false → (∀ e ∈ oj.after, Region.binds md e = true → e.on ≠ i) → o.apart ops oj = true) →
      i ∈ Region.ready md ops listed → I listed → YieldsIf P ops T o v a → Till q R S listed w →
      wpTill P md ops Q q R S n (listed.setIfInBounds i true) (a.put o.dst v) w → wpTill P md ops Q q R S (n + 1) listed a w := by
  have done : ∀ {m : Nat} {listed : Array Bool} {a : Act} {w : World}, I listed → YieldsIf P ops T o v a → Till q R S listed w →
      wpTill P md ops Q q R S m (listed.setIfInBounds i true) (a.put o.dst v) w →
      wpOp P ops Q i (fun b x => Till q R S (listed.setIfInBounds i true) x ∧ wpTill P md ops Q q R S m (listed.setIfInBounds i true) b x) a w :=
    fun hl hy hR H => hy.wpOp ho (hT _ _ hl hR) ⟨⟨hR.1, fun hu => hR.2 (hu.back hiq)⟩, H⟩
  induction n with
  | zero =>
    intro listed a w _ hr hl hy hR H
    refine ⟨fun e => by rw [e] at hr; exact absurd hr List.not_mem_nil, fun j hj => ?_⟩
    by_cases e : j = i
    · subst e; exact done hl hy hR H
    · have h2 := ready_mono hj e
      rw [H.1] at h2
      exact absurd h2 List.not_mem_nil
  | succ n ih =>
    intro listed a w hfree hr hl hy hR H
    refine ⟨fun e => by rw [e] at hr; exact absurd hr List.not_mem_nil, fun j hj => ?_⟩
    by_cases e : j = i
    · subst e; exact done hl hy hR H
    · obtain ⟨hun, oj, hoj, hall⟩ := mem_ready.1 hj
      have hiun := (mem_ready.1 hr).1
      have hno : ∀ x ∈ oj.after, Region.binds md x = true → x.on ≠ i := fun x hx hb hon => by
        have h1 := hall x hx hb
        rw [hon, getD_both hiun] at h1
        cases h1
      have hs := Region.noSelect_spec hsel
      refine wpOp_mono ?_ (wpOp_putIf hoj (hfree j oj hoj e hun hno) (fun cs b => hs i o cs b ho) (fun cs b => hs j oj cs b hoj) hQ hy (H.2 j (ready_mono hj e)))
      rintro b x ⟨hyb, hRx, hH⟩
      have hcomm : (listed.setIfInBounds i true).setIfInBounds j true = (listed.setIfInBounds j true).setIfInBounds i true := Array.setIfInBounds_comm _ _ (fun h => e h.symm)
      rw [hcomm] at hRx hH
      have hRj : Till q R S (listed.setIfInBounds j true) x := ⟨hRx.1, fun hu => hRx.2 (hu.set hiq)⟩
      refine ⟨hRj, ih ?_ (ready_mono hr (fun h => e h.symm)) (hI _ _ hl hiun hj e) hyb hRj hH⟩
      intro k ok hk hki hku hkn
      refine hfree k ok hk hki ?_ hkn
      by_cases hjk : j = k
      · subst hjk; exact hun
      · rwa [getD_set_ne true hjk] at hku

/-- Take number i first: all of q wait for it. -/
theorem wpTill.take {i : Nat} {o : Oper} {v : Value} {n : Nat} {listed : Array Bool} {a : Act} {w : World} (ho : ops[i]? = some o) (hsel : Region.noSelect ops = true) (hf : Region.free md ops listed i = true)
    (hr : (Region.ready md ops listed).contains i = true) (hq : (q.all fun s => !(s == i) && Region.waitsFor md ops s i && !listed.getD s true) = true)
    (hQ : ∀ c a w, Q (.panic c) (a.put o.dst v) w → Q (.panic c) a w) (hy : YieldsIf P ops (fun w => S w ∧ R w) o v a) (hR : Till q R S listed w)
    (h : Till q R S (listed.setIfInBounds i true) w → wpTill P md ops Q q R S n (listed.setIfInBounds i true) (a.put o.dst v) w) : wpTill P md ops Q q R S (n + 1) listed a w := by
  have hall := List.all_eq_true.1 hq
  have hiq : i ∉ q := fun hm => by have := hall i hm; simp at this
  refine wpTill.first (I := Unstored q) (T := fun w => S w ∧ R w) ho hiq hsel (fun _ _ hu ht => ⟨ht.1, ht.2 hu⟩) ?_ hQ n (Region.free_spec ho hf) (by simpa using hr) (fun s hs => ?_) hy hR (h ⟨hR.1, fun hu => hR.2 (hu.back hiq)⟩)
  · intro l j hl hiu hj hne
    refine hl.set fun hjq => ?_
    have hw := hall j hjq
    simp only [Bool.and_eq_true] at hw
    obtain ⟨oj, hoj, e, he, hb, hon⟩ := Region.waitsFor_spec hw.1.2
    obtain ⟨_, o2, ho2, h2⟩ := mem_ready.1 hj
    have : oj = o2 := Option.some.inj (hoj.symm.trans ho2)
    subst this
    have h3 := h2 e he hb
    rw [hon, getD_both hiu] at h3
    cases h3
  · have hw := hall s hs
    simp only [Bool.and_eq_true, Bool.not_eq_true'] at hw
    exact hw.2

/-- Take number i first, which yields v in every world that meets S. -/
theorem wpTill.takeAny {i : Nat} {o : Oper} {v : Value} {n : Nat} {listed : Array Bool} {a : Act} {w : World} (ho : ops[i]? = some o) (hsel : Region.noSelect ops = true) (hf : Region.free md ops listed i = true)
    (hr : (Region.ready md ops listed).contains i = true) (hq : (q.all fun s => !(s == i)) = true)
    (hQ : ∀ c a w, Q (.panic c) (a.put o.dst v) w → Q (.panic c) a w) (hy : YieldsIf P ops S o v a) (hR : Till q R S listed w)
    (h : Till q R S (listed.setIfInBounds i true) w → wpTill P md ops Q q R S n (listed.setIfInBounds i true) (a.put o.dst v) w) : wpTill P md ops Q q R S (n + 1) listed a w := by
  have hall := List.all_eq_true.1 hq
  have hiq : i ∉ q := fun hm => by have := hall i hm; simp at this
  exact wpTill.first (I := fun _ => True) (T := S) ho hiq hsel (fun _ _ _ ht => ht.1) (fun _ _ _ _ _ _ => trivial) hQ n (Region.free_spec ho hf) (by simpa using hr) trivial hy hR (h ⟨hR.1, fun hu => hR.2 (hu.back hiq)⟩)

/-- Number i is the only one that may come up. -/
theorem wpTill.only {i : Nat} {o : Oper} {n : Nat} {listed : Array Bool} {a : Act} {w : World} (hr : Region.ready md ops listed = [i]) (ho : ops[i]? = some o)
    (h : ∀ K : Act → World → Prop, Hid (∀ a w, Till q R S (listed.setIfInBounds i true) w → (Till q R S (listed.setIfInBounds i true) w → wpTill P md ops Q q R S n (listed.setIfInBounds i true) a w) → K a w) →
      if Region.wanted o (yielded ops a.tmps) = true then Oper.wp P o a w K Q else K (a.put o.dst undef) w) : wpTill P md ops Q q R S (n + 1) listed a w := by
  refine ⟨fun e => absurd (hr.symm.trans e) (List.cons_ne_nil _ _), fun j hj => ?_⟩
  rw [hr] at hj
  have e := List.mem_singleton.1 hj
  subst e
  exact wpOp_step ho (fun K hK => h K (Lib.hid (fun a w hT hW => hK a w ⟨hT, hW hT⟩)))

/-- Numbers i and j are those that may come up. -/
theorem wpTill.two {i j : Nat} {o o2 : Oper} {n : Nat} {listed : Array Bool} {a : Act} {w : World} (hr : Region.ready md ops listed = [i, j]) (ho : ops[i]? = some o) (ho2 : ops[j]? = some o2)
    (h : ∀ K : Act → World → Prop, Hid (∀ a w, Till q R S (listed.setIfInBounds i true) w → (Till q R S (listed.setIfInBounds i true) w → wpTill P md ops Q q R S n (listed.setIfInBounds i true) a w) → K a w) →
      if Region.wanted o (yielded ops a.tmps) = true then Oper.wp P o a w K Q else K (a.put o.dst undef) w)
    (h2 : ∀ K : Act → World → Prop, Hid (∀ a w, Till q R S (listed.setIfInBounds j true) w → (Till q R S (listed.setIfInBounds j true) w → wpTill P md ops Q q R S n (listed.setIfInBounds j true) a w) → K a w) →
      if Region.wanted o2 (yielded ops a.tmps) = true then Oper.wp P o2 a w K Q else K (a.put o2.dst undef) w) : wpTill P md ops Q q R S (n + 1) listed a w := by
  refine ⟨fun e => absurd (hr.symm.trans e) (List.cons_ne_nil _ _), fun k hk => ?_⟩
  rw [hr] at hk
  rcases List.mem_cons.1 hk with e | hk
  · subst e
    exact wpOp_step ho (fun K hK => h K (Lib.hid (fun a w hT hW => hK a w ⟨hT, hW hT⟩)))
  · have e := List.mem_singleton.1 hk
    subst e
    exact wpOp_step ho2 (fun K hK => h2 K (Lib.hid (fun a w hT hW => hK a w ⟨hT, hW hT⟩)))

theorem wpTill.done {n : Nat} {listed : Array Bool} {a : Act} {w : World} (hr : Region.ready md ops listed = []) (h : Q .normal a w) : wpTill P md ops Q q R S n listed a w := by
  cases n with
  | zero => exact ⟨hr, h⟩
  | succ n => exact ⟨fun _ => h, by rw [hr]; simp⟩

theorem wp_region_till {id : Nat} {a : Act} {w : World} (q : List Nat) (R S : World → Prop) (hm : P.follows .mixedOrders = true) (hS : S w.drew) (hR : R w.drew)
    (h : Till q R S (Array.replicate ops.size false) w.drew → wpTill P .any ops Q q R S ops.size (Array.replicate ops.size false) a w.drew) : (Code.region id ops true).wp P Q a w :=
  wp_region_any hm ((h (Till.of hS hR)).any)

end
end Go.Proofs.YtffigmciclopdaaDoor

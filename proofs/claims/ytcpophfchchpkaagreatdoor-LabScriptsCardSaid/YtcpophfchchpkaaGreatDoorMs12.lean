/- LsC, Clones, LsD, Keys, LbN, LsE, LsP, LsQ, LsR -/
import Derived.Test.YtcpophfchchpkaaGreatDoorMs11
import Derived.Deep.Cut
import Derived.Deep.DeepCutAuto
import Derived.Shelf.SlMaps.Clone
import Derived.Ground.SlmcProg
import Derived.Test.YtcpophfchchpkaaGreatDoorProg
import Derived.Shelf.SlIter.Nil
import Derived.Shelf.SortM.Plain
import Derived.Shelf.SortM.SortNone
import Derived.Ground.GgzProg
import Derived.Ground.SlgmProg
import Derived.Test.YtcpophfchchpkaaGreatDoorMs10
import Derived.Sort.Walk0
namespace Go.Proofs.YtcpophfchchpkaaGreatDoor
open Go Go.RowKit Go.MapKept Go.Maps
/-- The scripts with another one under a name. -/
def putX (X : List Sc) (k : ByteArray) (y : List UInt8 × Value) : List Sc := if (scG X k).isSome then X.map (fun x => if x.1 = k then (k, y) else x) else X ++ [(k, y)]
theorem putX_scM {X : List Sc} {k : ByteArray} {y : List UInt8 × Value} : scM (putX X k y) = if (scG X k).isSome then (scM X).map (fun x => if x.1 = k then (k, y.2) else x) else scM X ++ [(k, y.2)] := by
  unfold putX scM
  split
  · rw [List.map_map, List.map_map]
    refine List.map_congr_left (fun x _ => ?_)
    dsimp only [Function.comp]
    split <;> rfl
  · simp
theorem scG_scM (X : List Sc) (k : ByteArray) : mget (scM X) k = (scG X k).map Prod.snd := by
  show mget (X.map fun x => (x.1, (fun y : List UInt8 × Value => y.2) x.2)) k = _
  rw [mget_map]; rfl
theorem MRep.only {P : Program} {mt kt et : TypeId} {α β : Type} {kV : α → Value} {vV : β → Value} {zero : Value} {K : MapK P mt kt et α β kV vV zero} {w w' : World} {b : Nat} {L : List (α × β)} {S : Nat → Prop} (h : MRep K w b L) (ho : Only S w w') (hn : ¬ S b) : MRep K w' b L :=
  h.block (ho.block b h.lt hn)
theorem Blk.ne_map {P : Program} {mt kt et : TypeId} {α β : Type} {kV : α → Value} {vV : β → Value} {zero : Value} {K : MapK P mt kt et α β kV vV zero} {w : World} {b g t : Nat} {cs : Array Value} {L : List (α × β)} (h : Blk w g t cs) (hm : MRep K w b L) : g ≠ b := by
  obtain ⟨es, clock, hb, _⟩ := hm
  intro e
  subst e
  unfold Blk at h
  rw [h] at hb
  cases hb
theorem Only.setL (w : World) (g i : Nat) (u : Value) : Only (fun k => k = g) w (w.setCell ⟨g, i, none⟩ u) := Only.setCell (S := fun k => k = g) (Only.refl _ _) (p := ⟨g, i, none⟩) (.inl rfl) _
/-- A map held against nil. -/
theorem map_nilIn (d : Nat) (p : Option Nat) (w : World) : (Op.equalIn (d + 1) 24 (.map p) (.map none)).run Tryz.prog w = .ok p.isNone w := by
  cases p <;> simp [Op.equalIn, run_underlying Tryz.underlying24]
theorem map_nil (p : Option Nat) (w : World) : (binOp .eql 24 (.map p) (.map none)).run Tryz.prog w = .ok (.bool p.isNone) w := by
  simp only [binOp]
  simp [show Op.equal 24 (.map p) (.map none) = Op.equalIn (9999 + 1) 24 (.map p) (.map none) from rfl, map_nilIn 9999 p w]
section
variable {w w' : World} {b : Nat} {m : Option Nat} {X : List Sc}
/-- The blocks of a lab. -/
def LB (b : Nat) (m : Option Nat) (i : Nat) : Prop := i = b ∨ m = some i
theorem LRep.bts_only (h : LRep w b m X) {S : Nat → Prop} (ho : Only S w w') (hS : ∀ i, S i → LB b m i) {B : Nat} {v : Value} {bs : List UInt8} (hv : Bts w B 5 v bs) (hB : B ≤ b ∧ ∀ g, m = some g → B ≤ g) : Bts w' B 5 v bs := by
  refine hv.keep (KeepB.of_only ho (fun k _ hs => ?_))
  rcases hS k hs with e | e
  · subst e
    exact ⟨hB.1, fun c fr hh => h.blk.ne_ hh (by decide) rfl⟩
  · refine ⟨hB.2 k e, fun c fr hh => ?_⟩
    obtain ⟨es, clock, hb, _⟩ := h.map k e
    rw [hh] at hb; cases hb
theorem LRep.vals_only (h : LRep w b m X) {S : Nat → Prop} (ho : Only S w w') (hS : ∀ i, S i → LB b m i) : ∀ x ∈ X, Bts w' 0 5 x.2.2 x.2.1 ∧ x.2.1.length ≤ 4096 ∧ x.1.size ≤ maxLen :=
  fun x hx => ⟨h.bts_only ho hS (h.vals x hx).1 ⟨Nat.zero_le _, fun _ _ => Nat.zero_le _⟩, (h.vals x hx).2⟩
/-- The map has turned. -/
theorem LRep.turned {g : Nat} {Y : List Sc} (h : LRep w b (some g) X) (hm : MRep KL w' g (scM Y)) (ho : Only (fun k => k = g) w w') (hv : ∀ x ∈ Y, Bts w' 0 5 x.2.2 x.2.1 ∧ x.2.1.length ≤ 4096 ∧ x.1.size ≤ maxLen) : LRep w' b (some g) Y :=
  ⟨h.blk.only ho (h.blk.ne_map (h.map g rfl)), fun e => (by cases e), fun g' e => (by injection e with e; subst e; exact hm), hv⟩
end
/-- What put has before it writes. -/
structure PuX (w W : World) (B b g : Nat) (X : List Sc) (v : Value) (bs : List UInt8) : Prop where
  rep : LRep W b (some g) X
  val : Bts W B 5 v bs
  bel : Below w.heap.size w W
theorem PuX.adv {w W W' : World} {B b g : Nat} {X : List Sc} {v : Value} {bs : List UInt8} (h : PuX w W B b g X v bs) (hb : Below W.heap.size W W') : PuX w W' B b g X v bs :=
  ⟨h.rep.below hb, h.val.below hb, h.bel.trans (hb.mono h.bel.size)⟩
/-- A script has been put. -/
def PutRet (b : Nat) (m : Option Nat) (X : List Sc) (k : ByteArray) (bs : List UInt8) (w : World) (w' : World) : Prop :=
  ∃ m' u, LRep w' b m' (putX X k (bs, u)) ∧ Only (LB b m) w w' ∧ (m' = m ∨ ∃ g, m = none ∧ m' = some g ∧ w.heap.size ≤ g)
theorem put_done {w W1 W2 W3 : World} {b g : Nat} {X : List Sc} {k : ByteArray} {bs : List UInt8} {u : Value} (h : LRep W2 b (some g) X) (hk : k.size ≤ maxLen) (hl : bs.length ≤ 4096) (hu : Bts W2 0 5 u bs)
    (hm : MRep KL W3 g (scM (putX X k (bs, u)))) (ht : Turned W2 W3 g) : LRep W3 b (some g) (putX X k (bs, u)) := by
  have ho := ht.only
  have hS : ∀ i, (fun k => k = g) i → LB b (some g) i := fun i e => .inr (by rw [show i = g from e])
  refine h.turned hm ho (fun x hx => ?_)
  unfold putX at hx
  split at hx
  · obtain ⟨y, hy, e⟩ := List.mem_map.1 hx
    split at e
    · subst e; exact ⟨h.bts_only ho hS hu ⟨Nat.zero_le _, fun _ _ => Nat.zero_le _⟩, hl, hk⟩
    · subst e; exact h.vals_only ho hS y hy
  · rcases List.mem_append.1 hx with hx | hx
    · exact h.vals_only ho hS x hx
    · rw [List.mem_singleton.1 hx]
      exact ⟨h.bts_only ho hS hu ⟨Nat.zero_le _, fun _ _ => Nat.zero_le _⟩, hl, hk⟩
/-- 'm[k] = v', whether it is there or not. -/
theorem put_run {W : World} {b g : Nat} {X : List Sc} (h : LRep W b (some g) X) {k : ByteArray} (hk : k.size ≤ maxLen) (bs : List UInt8) (u : Value) :
    ∃ W', (Instr.mapUpdate 24 (.map (some g)) (.string k) u).run Tryz.prog W = .ok () W' ∧ MRep KL W' g (scM (putX X k (bs, u))) ∧ Turned W W' g := by
  rw [putX_scM]
  have hr := h.map g rfl
  cases hs : scG X k with
  | none =>
    have := hr.put (k := k) hk (by rw [scG_scM, hs]; rfl) u
    simpa using this
  | some y =>
    have := hr.over (k := k) hk (v0 := y.2) (by rw [scG_scM, hs]; rfl) u
    simpa using this
set_option maxRecDepth 100000 in
set_option maxHeartbeats 2000000 in
theorem put_some (B b g : Nat) (X : List Sc) (k : ByteArray) (v : Value) (bs : List UInt8) (w : World) (h : LRep w b (some g) X) (hv : Bts w B 5 v bs) (hl : bs.length ≤ 4096) (hk : k.size ≤ maxLen) :
    Calls Tryz.prog 25 #[.pointer (some ⟨b, 0, none⟩), .string k, v] w fun e w' => e = .returned (.tuple #[]) ∧ PutRet b (some g) X k bs w w' := by
  obtain ⟨VA, vc, rfl⟩ := hv.form
  have HP : Hid (PuX w w B b g X (.slice VA bs.length vc) bs) := Lib.hid ⟨h, hv, Below.refl _ _⟩
  have HK := Lib.hid hk
  have HL := Lib.hid hl
  have c0 := h.cell
  have c1 := h.blk.frozen 0
  have c2 := h.blk.lt
  have hq := fun w => map_nil (some g) w
  clear h hv hl hk
  go_enter Tryz.func25, Tryz.ntmps25
  go_upto_region 2 with fail
  refine wp_region_noPanic ?_
  refine wp_region_till [7] (fun W => PuX (w) W B b g (X) (.slice VA bs.length vc) bs) (fun _ => True) (by kernel_rfl) trivial (HP.out.adv (Below.refl _ _).drew) (fun hTill => ?_)
  have HP1 := Lib.hid (HP.out.adv (Below.refl (w).heap.size (w)).drew)
  generalize World.drew _ = W2 at HP1 hTill ⊢
  refine ts 0 (v := ?_) ?_ ?_
  rotate_left 1
  · intro W hSw
    skip
    clear hSw
    go_simp
    try with_reducible rfl
  try dsimp only [zS, zB, zC]
  clear hTill
  intro hTill
  refine ts 4 (v := ?_) ?_ ?_
  rotate_left 1
  · intro W hSw
    skip
    clear hSw
    go_simp
    try with_reducible rfl
  try dsimp only [zS, zB, zC]
  clear hTill
  intro hTill
  refine ts 5 (v := ?_) ?_ ?_
  rotate_left 1
  · intro W hSw
    skip
    clear hSw
    go_simp
    try with_reducible rfl
  try dsimp only [zS, zB, zC]
  clear hTill
  intro hTill
  refine tt 1 (v := ?_) ?_ ?_
  rotate_left 1
  · intro W hSw
    skip
    clear hSw
    go_simp
    try with_reducible rfl
  try dsimp only [zS, zB, zC]
  clear hTill
  intro hTill
  refine tt 2 (v := ?_) ?_ ?_
  rotate_left 1
  · intro W hSw
    skip
    clear hSw
    go_simp
    try with_reducible rfl
  try dsimp only [zS, zB, zC]
  clear hTill
  intro hTill
  refine tt 3 (v := ?_) ?_ ?_
  rotate_left 1
  · intro W hSw
    have x0 := hSw.2.rep.cell; have x1 := hSw.2.rep.blk.frozen 0; have x2 := hSw.2.rep.blk.lt
    clear hSw
    go_simp
    try with_reducible rfl
  try dsimp only [zS, zB, zC]
  clear hTill
  intro hTill
  refine wpTill.only (i := 6) (o := ⟨_, _, _, _, _, _⟩) (by kernel_rfl) rfl (fun F hF => ?_)
  go_simp
  refine (bytesClone_any B _ bs W2 HP1.out.val (by have := HL.out; omega)).mono ?_
  rintro e W3 ⟨u, rfl, hu, hbu⟩
  have HP3 := Lib.hid (HP1.out.adv hbu)
  have HU := Lib.hid (Bts.of_own hu 0)
  clear hu hbu HP1
  refine hF.out _ _ (Till.of trivial HP3.out) (fun hTill => ?_)
  clear hF F
  try simp only [Act.put, zA, zB, zC]
  obtain ⟨W4, hput, hm4, ht4⟩ := put_run HP3.out.rep HK.out bs u
  have HM4 := Lib.hid hm4
  have HT4 := Lib.hid ht4
  clear hm4 ht4
  refine wpTill.only (i := 7) (o := ⟨_, _, _, _, _, _⟩) (by kernel_rfl) rfl (fun F hF => ?_)
  go_simp
  refine hF.out _ _ (Till.stored trivial (by kernel_rfl)) (fun hTill => ?_)
  clear hF F hTill hput
  try simp only [Act.put, zA, zB, zC]
  refine wpTill.done (by kernel_rfl) ?_
  try refine NoPanic.normal ?_
  have HR4 := Lib.hid (put_done (w := w) (W1 := w) HP3.out.rep HK.out HL.out HU.out HM4.out HT4.out)
  have HO4 : Hid (Only (fun i => i = g) W3 W4) := Lib.hid HT4.out.only
  go_wp2_with fail
  go_end0
  exact ⟨rfl, some g, u, HR4.out, (Only.of_below (S := LB b (some g)) HP3.out.bel).trans HO4.out (fun i _ e => .inr (by rw [show i = g from e])), .inl rfl⟩
set_option maxRecDepth 100000 in
set_option maxHeartbeats 2000000 in
theorem put_none (B b : Nat) (k : ByteArray) (v : Value) (bs : List UInt8) (w : World) (h : LRep w b none []) (hv : Bts w B 5 v bs) (hl : bs.length ≤ 4096) (hk : k.size ≤ maxLen) (hB : B ≤ b) :
    Calls Tryz.prog 25 #[.pointer (some ⟨b, 0, none⟩), .string k, v] w fun e w' => e = .returned (.tuple #[]) ∧ PutRet b none [] k bs w w' := by
  obtain ⟨VA, vc, rfl⟩ := hv.form
  have HK := Lib.hid hk
  have HL := Lib.hid hl
  have HB := Lib.hid hB
  have HR := Lib.hid h
  have HV := Lib.hid hv
  have c0 := h.cell
  have c1 := h.blk.frozen 0
  have c2 := h.blk.lt
  have hmm := @run_makeMap Tryz.prog
  have hq := fun w => map_nil none w
  clear h hv hl hk hB
  go_enter Tryz.func25, Tryz.ntmps25
  go_upto_region 2 with fail
  have hbs : Only (fun i => i = b) w (w.setCell ⟨b, 0, none⟩ (.map (some w.heap.size))) := Only.setL _ b 0 _
  have hsz : (w.setCell ⟨b, 0, none⟩ (.map (some w.heap.size))).heap.size = w.heap.size := by simp
  have hba : Below (w.setCell ⟨b, 0, none⟩ (.map (some w.heap.size))).heap.size (w.setCell ⟨b, 0, none⟩ (.map (some w.heap.size))) ((w.setCell ⟨b, 0, none⟩ (.map (some w.heap.size))).alloc (.map #[] 0)) := (Below.refl _ _).alloc (Nat.le_refl _) _
  have HO : Hid (Only (fun i => i = b) w ((w.setCell ⟨b, 0, none⟩ (.map (some w.heap.size))).alloc (.map #[] 0))) := Lib.hid (hbs.trans (Only.of_below (S := fun i => i = b) hba) (fun _ _ e => e))
  have HP : Hid (PuX ((w.setCell ⟨b, 0, none⟩ (.map (some w.heap.size))).alloc (.map #[] 0)) ((w.setCell ⟨b, 0, none⟩ (.map (some w.heap.size))).alloc (.map #[] 0)) B b w.heap.size [] (.slice VA bs.length vc) bs) := Lib.hid ⟨⟨(HR.out.blk.set_ 0 _).alloc _, (fun e => by cases e), (fun g e => by
    injection e with e; subst e
    have := MRep.made (K := KL) (w.setCell ⟨b, 0, none⟩ (.map (some w.heap.size)))
    rw [hsz] at this
    exact this), fun x hx => by cases hx⟩, (HR.out.bts_only hbs (fun i e => .inl e) HV.out ⟨HB.out, fun g e => by cases e⟩).below hba, Below.refl _ _⟩
  have HS : Hid (w.heap.size < ((w.setCell ⟨b, 0, none⟩ (.map (some w.heap.size))).alloc (.map #[] 0)).heap.size) := Lib.hid (by have := HP.out.rep.map _ rfl; exact this.lt)
  clear hba hbs hsz c0 c1 c2 hmm hq
  obtain ⟨g, hg⟩ : ∃ g, w.heap.size = g := ⟨_, rfl⟩
  rw [hg] at HO HP HS ⊢
  generalize World.alloc _ _ = W1 at HO HP HS ⊢
  have HG := Lib.hid hg
  clear hg
  refine wp_region_noPanic ?_
  refine wp_region_till [7] (fun W => PuX (W1) W B b g ([]) (.slice VA bs.length vc) bs) (fun _ => True) (by kernel_rfl) trivial (HP.out.adv (Below.refl _ _).drew) (fun hTill => ?_)
  have HP1 := Lib.hid (HP.out.adv (Below.refl (W1).heap.size (W1)).drew)
  generalize World.drew _ = W2 at HP1 hTill ⊢
  refine ts 0 (v := ?_) ?_ ?_
  rotate_left 1
  · intro W hSw
    skip
    clear hSw
    go_simp
    try with_reducible rfl
  try dsimp only [zS, zB, zC]
  clear hTill
  intro hTill
  refine ts 4 (v := ?_) ?_ ?_
  rotate_left 1
  · intro W hSw
    skip
    clear hSw
    go_simp
    try with_reducible rfl
  try dsimp only [zS, zB, zC]
  clear hTill
  intro hTill
  refine ts 5 (v := ?_) ?_ ?_
  rotate_left 1
  · intro W hSw
    skip
    clear hSw
    go_simp
    try with_reducible rfl
  try dsimp only [zS, zB, zC]
  clear hTill
  intro hTill
  refine tt 1 (v := ?_) ?_ ?_
  rotate_left 1
  · intro W hSw
    skip
    clear hSw
    go_simp
    try with_reducible rfl
  try dsimp only [zS, zB, zC]
  clear hTill
  intro hTill
  refine tt 2 (v := ?_) ?_ ?_
  rotate_left 1
  · intro W hSw
    skip
    clear hSw
    go_simp
    try with_reducible rfl
  try dsimp only [zS, zB, zC]
  clear hTill
  intro hTill
  refine tt 3 (v := ?_) ?_ ?_
  rotate_left 1
  · intro W hSw
    have x0 := hSw.2.rep.cell; have x1 := hSw.2.rep.blk.frozen 0; have x2 := hSw.2.rep.blk.lt
    clear hSw
    go_simp
    try with_reducible rfl
  try dsimp only [zS, zB, zC]
  clear hTill
  intro hTill
  refine wpTill.only (i := 6) (o := ⟨_, _, _, _, _, _⟩) (by kernel_rfl) rfl (fun F hF => ?_)
  go_simp
  refine (bytesClone_any B _ bs W2 HP1.out.val (by have := HL.out; omega)).mono ?_
  rintro e W3 ⟨u, rfl, hu, hbu⟩
  have HP3 := Lib.hid (HP1.out.adv hbu)
  have HU := Lib.hid (Bts.of_own hu 0)
  clear hu hbu HP1
  refine hF.out _ _ (Till.of trivial HP3.out) (fun hTill => ?_)
  clear hF F
  try simp only [Act.put, zA, zB, zC]
  obtain ⟨W4, hput, hm4, ht4⟩ := put_run HP3.out.rep HK.out bs u
  have HM4 := Lib.hid hm4
  have HT4 := Lib.hid ht4
  clear hm4 ht4
  refine wpTill.only (i := 7) (o := ⟨_, _, _, _, _, _⟩) (by kernel_rfl) rfl (fun F hF => ?_)
  go_simp
  refine hF.out _ _ (Till.stored trivial (by kernel_rfl)) (fun hTill => ?_)
  clear hF F hTill hput
  try simp only [Act.put, zA, zB, zC]
  refine wpTill.done (by kernel_rfl) ?_
  try refine NoPanic.normal ?_
  have HR4 := Lib.hid (put_done (w := w) (W1 := w) HP3.out.rep HK.out HL.out HU.out HM4.out HT4.out)
  have HO4 : Hid (Only (fun i => i = g) W3 W4) := Lib.hid HT4.out.only
  go_wp2_with fail
  go_end0
  refine ⟨rfl, some g, u, HR4.out, ?_, .inr ⟨g, rfl, rfl, by rw [HG.out]; exact Nat.le_refl _⟩⟩
  have h1 := (HO.out.trans (Only.of_below (S := fun i => i = b) HP3.out.bel) (fun _ _ e => e)).trans HO4.out (S := fun i => i = b) (fun i hi e => absurd hi (by rw [HG.out, show i = g from e]; exact Nat.lt_irrefl _))
  exact h1.mono (fun _ _ e => .inl e)
theorem put_any (B b : Nat) (m : Option Nat) (X : List Sc) (k : ByteArray) (v : Value) (bs : List UInt8) (w : World) (h : LRep w b m X) (hv : Bts w B 5 v bs) (hl : bs.length ≤ 4096) (hk : k.size ≤ maxLen) (hB : B ≤ b) :
    Calls Tryz.prog 25 #[.pointer (some ⟨b, 0, none⟩), .string k, v] w fun e w' => e = .returned (.tuple #[]) ∧ PutRet b m X k bs w w' := by
  cases m with
  | none =>
    have := h.no rfl
    subst this
    exact put_none B b k v bs w h hv hl hk hB
  | some g => exact put_some B b g X k v bs w h hv hl hk
end Go.Proofs.YtcpophfchchpkaaGreatDoor
namespace Go.Proofs
open Go.Shelf
def Tryz.cloneA_ren : Go.Shelf.Ren := ⟨fun | 5 => 31 | 7 => 42 | n => n, fun | 23 => 24 | 25 => 9 | 3 => 29 | 4 => 4 | 20 => 20 | n => n, fun | n => n⟩
theorem Tryz.cloneA : Go.Proofs.SlLaysW.n5 Tryz.prog Tryz.cloneA_ren := {
  mixed := by kernel_rfl
  f5 := ⟨Tryz.f31.name, by decide, Tryz.func31.trans (congrArg some (by kernel_rfl))⟩
  f7 := Tryz.func42.trans (congrArg some (by kernel_rfl))
  t4 := Tryz.underlying4
  a4 := Tryz.isAgg4
  z4 := Tryz.sizeOf4
  v4 := Tryz.zeroValue4
  t20 := Tryz.underlying20
  a20 := Tryz.isAgg20
  z20 := Tryz.sizeOf20
  v20 := Tryz.zeroValue20
  t23 := Tryz.underlying24
  a23 := Tryz.isAgg24
  z23 := Tryz.sizeOf24
  v23 := Tryz.zeroValue24 }
end Go.Proofs
namespace Go.Proofs.YtcpophfchchpkaaGreatDoor
open Go Go.RowKit Go.MapKept Go.Maps
/-- What Put says. -/
def putE (X : List Sc) (k : ByteArray) (bs : List UInt8) : Int := if nameOk k = true then (if 4096 < bs.length then 5 else if fullB X k = true then 7 else 0) else 2
set_option maxHeartbeats 2000000 in
theorem labPut_any (B b : Nat) (m : Option Nat) (X : List Sc) (k : ByteArray) (v : Value) (bs : List UInt8) (w : World) (h : LRep w b m X) (hv : Bts w B 5 v bs) (hk : k.size ≤ maxLen) (hB : B ≤ b) (hX : X.length ≤ 1000000) :
    Calls Tryz.prog 6 #[.pointer (some ⟨b, 0, none⟩), .string k, v] w fun e w' => e = .returned (.int .i64 (putE X k bs)) ∧ ((putE X k bs = 0 ∧ PutRet b m X k bs w w') ∨ (putE X k bs ≠ 0 ∧ w' = w)) := by
  obtain ⟨VA, vc, rfl⟩ := hv.form
  have hle := hv.le
  unfold maxLen at hle
  have HN := Lib.hid (validName_any k w hk)
  have HF := Lib.hid (full_any b m X k w h hk hX)
  have HP := fun hl => put_any B b m X k _ bs w h hv hl hk hB
  have HP := Lib.hid HP
  clear h hv hX
  unfold putE
  cases hn : nameOk k with
  | false =>
    rw [hn] at HN
    clear hn HF HP
    go_enter Tryz.func6, Tryz.ntmps6
    go_wp2_with fail
    refine HN.out.mono ?_
    rintro e w1 ⟨rfl, rfl⟩
    go_wp2_with fail
    go_ret
    first | exact ⟨rfl, .inr ⟨by decide, rfl⟩⟩ | exact ⟨rfl, rfl⟩
  | true =>
    rw [hn] at HN
    clear hn
    rw [if_pos rfl]
    by_cases hl : 4096 < bs.length
    · have hl' : (4096 : Int) < (bs.length : Int) := by omega
      rw [if_pos hl]
      clear HF HP
      go_enter Tryz.func6, Tryz.ntmps6
      go_wp2_with fail
      refine HN.out.mono ?_
      rintro e w1 ⟨rfl, rfl⟩
      go_wp2_with fail
      go_ret
      first | exact ⟨rfl, .inr ⟨by decide, rfl⟩⟩ | exact ⟨rfl, rfl⟩
    · have hl' : ¬ (4096 : Int) < (bs.length : Int) := by omega
      have HP' := Lib.hid (HP.out (by omega))
      clear HP
      rw [if_neg hl]
      cases hf : fullB X k with
      | true =>
        rw [hf] at HF
        clear hf HP'
        rw [if_pos rfl]
        go_enter Tryz.func6, Tryz.ntmps6
        go_wp2_with fail
        refine HN.out.mono ?_
        rintro e w1 ⟨rfl, rfl⟩
        go_wp2_with fail
        refine HF.out.mono ?_
        rintro e w1 ⟨rfl, rfl⟩
        go_wp2_with fail
        go_ret
        first | exact ⟨rfl, .inr ⟨by decide, rfl⟩⟩ | exact ⟨rfl, rfl⟩
      | false =>
        rw [hf] at HF
        clear hf
        rw [if_neg (by decide)]
        go_enter Tryz.func6, Tryz.ntmps6
        go_wp2_with fail
        refine HN.out.mono ?_
        rintro e w1 ⟨rfl, rfl⟩
        go_wp2_with fail
        refine HF.out.mono ?_
        rintro e w1 ⟨rfl, rfl⟩
        go_wp2_with fail
        refine HP'.out.mono ?_
        rintro e w2 ⟨rfl, hp⟩
        have HR := Lib.hid hp
        clear hp HP' HN HF
        go_wp2_with fail
        go_ret
        first | exact ⟨rfl, .inl ⟨rfl, HR.out⟩⟩ | exact ⟨rfl, .inl ⟨trivial, HR.out⟩⟩ | exact ⟨rfl, HR.out⟩
theorem scM_del (X : List Sc) (k : ByteArray) : scM (mdel X k) = mdel (scM X) k := by
  unfold scM mdel
  rw [List.filter_map]
  rfl
set_option maxHeartbeats 2000000 in
theorem remove_any (b : Nat) (m : Option Nat) (X : List Sc) (k : ByteArray) (w : World) (h : LRep w b m X) (hk : k.size ≤ maxLen) :
    Calls Tryz.prog 11 #[.pointer (some ⟨b, 0, none⟩), .string k] w fun e w' => e = .returned (.int .i64 (scE (scG X k))) ∧ LRep w' b m (mdel X k) ∧ Only (LB b m) w w' := by
  have HS := Lib.hid (script_any b m X k w h hk)
  cases hs : scG X k with
  | none =>
    rw [hs] at HS
    have hX : mdel X k = X := mdel_other (mget_none hs)
    rw [hX]
    have HR := Lib.hid h
    have e9 : scE none = 9 := rfl
    have eV : scV none = .slice none 0 0 := rfl
    rw [e9, eV] at HS
    rw [e9]
    clear h hs hX e9 eV
    go_enter Tryz.func11, Tryz.ntmps11
    go_wp2_with fail
    refine HS.out.mono ?_
    rintro e w1 ⟨rfl, rfl⟩
    go_wp2_with fail
    go_ret
    exact ⟨rfl, HR.out, Only.refl _ _⟩
  | some y =>
    rw [hs] at HS
    have e0 : scE (some y) = 0 := rfl
    have eV : scV (some y) = y.2 := rfl
    rw [e0, eV] at HS
    rw [e0]
    obtain ⟨g, rfl⟩ : ∃ g, m = some g := by
      cases m with
      | none => rw [h.no rfl] at hs; cases hs
      | some g => exact ⟨g, rfl⟩
    obtain ⟨W, hd, hm, ht⟩ := (h.map g rfl).del (k := k) hk
    have ho : Only (fun i => i = g) w W := ht.only
    have HL : Hid (LRep W b (some g) (mdel X k)) := Lib.hid (h.turned (by rw [scM_del]; exact hm) ho (fun x hx => h.vals_only ho (fun i e => .inr (by rw [show i = g from e])) x (mem_mdel.1 hx).1))
    have HO : Hid (Only (LB b (some g)) w W) := Lib.hid (ho.mono (fun i _ e => .inr (by rw [show i = g from e])))
    have c0 := h.cell
    have c1 := h.blk.frozen 0
    have c2 := h.blk.lt
    clear h hs e0 eV hm ht ho
    generalize y.2 = u at HS
    go_enter Tryz.func11, Tryz.ntmps11
    go_wp2_with fail
    refine HS.out.mono ?_
    rintro e w1 ⟨rfl, rfl⟩
    go_wp2_with fail
    go_ret
    exact ⟨rfl, HL.out, HO.out⟩
set_option maxHeartbeats 2000000 in
theorem copy_any (b : Nat) (m : Option Nat) (X : List Sc) (w : World) (h : LRep w b m X) :
    Calls Tryz.prog 13 #[.pointer (some ⟨b, 0, none⟩)] w fun e w' => ∃ b' m', e = .returned (.pointer (some ⟨b', 0, none⟩)) ∧ LRep w' b' m' X ∧ w.heap.size ≤ b' ∧ (∀ g, m' = some g → w.heap.size ≤ g) ∧ Below w.heap.size w w' := by
  have c0 := h.cell
  have c1 := h.blk.frozen 0
  have c2 := h.blk.lt
  cases m with
  | none =>
    have HC : Hid (Calls Tryz.prog 31 #[.map none] w fun e w' => e = .returned (.map none) ∧ w' = w) := Lib.hid (AnyW.maps_Clone_nil Tryz.cloneA w)
    have hX := h.no rfl
    subst hX
    clear h
    go_enter Tryz.func13, Tryz.ntmps13
    go_wp2_with fail
    refine HC.out.mono ?_
    rintro e w1 ⟨rfl, rfl⟩
    go_wp2_with fail
    go_ret
    exact ⟨_, none, rfl, ⟨Blk.new _ _ _, fun _ => rfl, fun g e => (by cases e), fun x hx => (by cases hx)⟩, Nat.le_refl _, fun g e => (by cases e), (Below.refl _ _).alloc (Nat.le_refl _) _⟩
  | some g =>
    obtain ⟨es, clock, hb, hE⟩ := h.map g rfl
    have HC : Hid (Calls Tryz.prog 31 #[.map (some g)] w fun e w' => e = .returned (.map (some w.heap.size)) ∧ w' = w.alloc (.map es clock)) := Lib.hid (AnyW.maps_Clone Tryz.cloneA g es clock w hb)
    have HR := Lib.hid h
    have HE := Lib.hid hE
    clear h hb hE
    go_enter Tryz.func13, Tryz.ntmps13
    go_wp2_with fail
    refine HC.out.mono ?_
    rintro e w1 ⟨rfl, rfl⟩
    go_wp2_with fail
    go_ret
    have hba : Below w.heap.size w ((w.alloc (.map es clock)).alloc (.cells #[.map (some w.heap.size)] 26)) := ((Below.refl _ _).alloc (Nat.le_refl _) _).alloc (by simp) _
    have hm : MRep KL (w.alloc (.map es clock)) w.heap.size (scM X) := ⟨es, clock, heap_alloc_new w _, HE.out⟩
    have hm2 := hm.alloc (.cells #[.map (some w.heap.size)] 26)
    have hbk := Blk.new2 w (.map es clock) 26 #[.map (some w.heap.size)]
    exact ⟨w.heap.size + 1, some w.heap.size, by simp, ⟨hbk, fun e => (by cases e), fun g' e => (by injection e with e; subst e; exact hm2), fun x hx => ⟨(HR.out.vals x hx).1.below hba, (HR.out.vals x hx).2⟩⟩, by omega, fun g' e => (by injection e with e; omega), hba⟩
end Go.Proofs.YtcpophfchchpkaaGreatDoor
namespace Go.Proofs
open Go.Shelf
def Tryz.keysA_ren : Go.Shelf.Ren := ⟨fun | 7 => 27 | 10 => 41 | n => n, fun | 23 => 24 | 26 => 9 | 3 => 29 | 28 => 80 | 0 => 0 | 27 => 79 | 33 => 76 | 4 => 4 | n => n, fun | n => n⟩
theorem Tryz.keysA : Go.Proofs.SlLaysZ.n7 Tryz.prog Tryz.keysA_ren := {
  mixed := by kernel_rfl
  f7 := ⟨Tryz.f27.name, by decide, Tryz.func27.trans (congrArg some (by kernel_rfl))⟩
  f10 := ⟨Tryz.f41.name, by decide, Tryz.func41.trans (congrArg some (by kernel_rfl))⟩
  t0 := Tryz.underlying0
  a0 := Tryz.isAgg0
  z0 := Tryz.sizeOf0
  v0 := Tryz.zeroValue0
  t4 := Tryz.underlying4
  a4 := Tryz.isAgg4
  z4 := Tryz.sizeOf4
  v4 := Tryz.zeroValue4
  t23 := Tryz.underlying24
  a23 := Tryz.isAgg24
  z23 := Tryz.sizeOf24
  v23 := Tryz.zeroValue24
  t26 := Tryz.underlying9
  a26 := Tryz.isAgg9
  z26 := Tryz.sizeOf9
  v26 := Tryz.zeroValue9
  t27 := Tryz.underlying79
  a27 := Tryz.isAgg79
  z27 := Tryz.sizeOf79
  v27 := Tryz.zeroValue79
  t28 := Tryz.underlying80
  a28 := Tryz.isAgg80
  z28 := Tryz.sizeOf80
  v28 := Tryz.zeroValue80
  t33 := Tryz.underlying76
  a33 := Tryz.isAgg76
  z33 := Tryz.sizeOf76
  v33 := Tryz.zeroValue76 }
def Tryz.sortedA_ren : Go.Shelf.Ren := ⟨fun | 6 => 26 | 8 => 39 | 9 => 40 | 11 => 55 | 13 => 57 | 12 => 56 | 23 => 91 | 24 => 92 | 14 => 82 | 15 => 83 | 16 => 84 | 17 => 85 | 18 => 86 | 19 => 87 | 20 => 88 | 21 => 89 | 22 => 90 | 25 => 138 | 26 => 139 | 27 => 140 | 28 => 141 | 29 => 142 | 30 => 143 | 31 => 189 | n => n, fun | 26 => 9 | 28 => 80 | 24 => 30 | 0 => 0 | 3 => 3 | 37 => 129 | 48 => 75 | 50 => 47 | 4 => 4 | 40 => 161 | 39 => 160 | 45 => 166 | 5 => 5 | 9 => 9 | 51 => 217 | 55 => 221 | 57 => 309 | 58 => 260 | 33 => 76 | n => n, fun | n => n⟩
theorem Tryz.sortedA : Go.Proofs.SlLaysZ.n6 Tryz.prog Tryz.sortedA_ren := {
  mixed := by kernel_rfl
  f6 := ⟨Tryz.f26.name, by decide, Tryz.func26.trans (congrArg some (by kernel_rfl))⟩
  f8 := ⟨Tryz.f39.name, by decide, Tryz.func39.trans (congrArg some (by kernel_rfl))⟩
  f11 := ⟨Tryz.f55.name, by decide, Tryz.func55.trans (congrArg some (by kernel_rfl))⟩
  t0 := Tryz.underlying0
  a0 := Tryz.isAgg0
  z0 := Tryz.sizeOf0
  v0 := Tryz.zeroValue0
  t24 := Tryz.underlying30
  a24 := Tryz.isAgg30
  z24 := Tryz.sizeOf30
  v24 := Tryz.zeroValue30
  t26 := Tryz.underlying9
  a26 := Tryz.isAgg9
  z26 := Tryz.sizeOf9
  v26 := Tryz.zeroValue9
  t28 := Tryz.underlying80
  a28 := Tryz.isAgg80
  z28 := Tryz.sizeOf80
  v28 := Tryz.zeroValue80
  i26 := by kernel_rfl }
def Tryz.sortA_ren : Go.Shelf.Ren := ⟨fun | 6 => 40 | 8 => 57 | 9 => 56 | 19 => 91 | 20 => 92 | 21 => 82 | 22 => 83 | 23 => 84 | 24 => 85 | 25 => 86 | 26 => 87 | 27 => 88 | 28 => 89 | 29 => 90 | 36 => 138 | 31 => 139 | 32 => 140 | 37 => 141 | 38 => 142 | 39 => 143 | 41 => 189 | n => n, fun | 27 => 30 | 29 => 9 | 3 => 3 | 32 => 129 | 26 => 30 | 0 => 0 | 44 => 75 | 46 => 47 | 4 => 4 | 36 => 161 | 35 => 160 | 41 => 166 | 5 => 5 | 9 => 9 | 53 => 217 | 57 => 221 | 63 => 309 | 64 => 260 | n => n, fun | n => n⟩
theorem Tryz.sortA : Go.Proofs.SlLaysM.n6 Tryz.prog Tryz.sortA_ren := {
  mixed := by kernel_rfl
  f6 := ⟨Tryz.f40.name, by decide, Tryz.func40.trans (congrArg some (by kernel_rfl))⟩
  f8 := Tryz.func57.trans (congrArg some (by kernel_rfl))
  f9 := ⟨Tryz.f56.name, by decide, Tryz.func56.trans (congrArg some (by kernel_rfl))⟩
  f19 := Tryz.func91.trans (congrArg some (by kernel_rfl))
  f20 := Tryz.func92.trans (congrArg some (by kernel_rfl))
  f21 := ⟨Tryz.f82.name, by decide, Tryz.func82.trans (congrArg some (by kernel_rfl))⟩
  f22 := ⟨Tryz.f83.name, by decide, Tryz.func83.trans (congrArg some (by kernel_rfl))⟩
  f23 := ⟨Tryz.f84.name, by decide, Tryz.func84.trans (congrArg some (by kernel_rfl))⟩
  f24 := ⟨Tryz.f85.name, by decide, Tryz.func85.trans (congrArg some (by kernel_rfl))⟩
  f25 := ⟨Tryz.f86.name, by decide, Tryz.func86.trans (congrArg some (by kernel_rfl))⟩
  f26 := ⟨Tryz.f87.name, by decide, Tryz.func87.trans (congrArg some (by kernel_rfl))⟩
  f27 := ⟨Tryz.f88.name, by decide, Tryz.func88.trans (congrArg some (by kernel_rfl))⟩
  f28 := ⟨Tryz.f89.name, by decide, Tryz.func89.trans (congrArg some (by kernel_rfl))⟩
  f29 := ⟨Tryz.f90.name, by decide, Tryz.func90.trans (congrArg some (by kernel_rfl))⟩
  f31 := Tryz.func139.trans (congrArg some (by kernel_rfl))
  f32 := Tryz.func140.trans (congrArg some (by kernel_rfl))
  f36 := ⟨Tryz.f138.name, by decide, Tryz.func138.trans (congrArg some (by kernel_rfl))⟩
  f37 := ⟨Tryz.f141.name, by decide, Tryz.func141.trans (congrArg some (by kernel_rfl))⟩
  f38 := ⟨Tryz.f142.name, by decide, Tryz.func142.trans (congrArg some (by kernel_rfl))⟩
  f39 := ⟨Tryz.f143.name, by decide, Tryz.func143.trans (congrArg some (by kernel_rfl))⟩
  f41 := ⟨Tryz.f189.name, by decide, Tryz.func189.trans (congrArg some (by kernel_rfl))⟩
  t0 := Tryz.underlying0
  a0 := Tryz.isAgg0
  z0 := Tryz.sizeOf0
  v0 := Tryz.zeroValue0
  t3 := Tryz.underlying3
  a3 := Tryz.isAgg3
  z3 := Tryz.sizeOf3
  v3 := Tryz.zeroValue3
  t4 := Tryz.underlying4
  a4 := Tryz.isAgg4
  z4 := Tryz.sizeOf4
  v4 := Tryz.zeroValue4
  t5 := Tryz.underlying5
  a5 := Tryz.isAgg5
  z5 := Tryz.sizeOf5
  v5 := Tryz.zeroValue5
  t9 := Tryz.underlying9
  a9 := Tryz.isAgg9
  z9 := Tryz.sizeOf9
  v9 := Tryz.zeroValue9
  t26 := Tryz.underlying30
  a26 := Tryz.isAgg30
  z26 := Tryz.sizeOf30
  v26 := Tryz.zeroValue30
  t27 := Tryz.underlying30
  a27 := Tryz.isAgg30
  z27 := Tryz.sizeOf30
  v27 := Tryz.zeroValue30
  t29 := Tryz.underlying9
  a29 := Tryz.isAgg9
  z29 := Tryz.sizeOf9
  v29 := Tryz.zeroValue9
  t32 := Tryz.underlying129
  a32 := Tryz.isAgg129
  z32 := Tryz.sizeOf129
  v32 := Tryz.zeroValue129
  t35 := Tryz.underlying160
  a35 := Tryz.isAgg160
  z35 := Tryz.sizeOf160
  v35 := Tryz.zeroValue160
  t36 := Tryz.underlying161
  a36 := Tryz.isAgg161
  z36 := Tryz.sizeOf161
  v36 := Tryz.zeroValue161
  t41 := Tryz.underlying166
  a41 := Tryz.isAgg166
  z41 := Tryz.sizeOf166
  v41 := Tryz.zeroValue166
  t44 := Tryz.underlying75
  a44 := Tryz.isAgg75
  z44 := Tryz.sizeOf75
  v44 := Tryz.zeroValue75
  t46 := Tryz.underlying47
  a46 := Tryz.isAgg47
  z46 := Tryz.sizeOf47
  v46 := Tryz.zeroValue47
  t53 := Tryz.underlying217
  a53 := Tryz.isAgg217
  z53 := Tryz.sizeOf217
  v53 := Tryz.zeroValue217
  t57 := Tryz.underlying221
  a57 := Tryz.isAgg221
  z57 := Tryz.sizeOf221
  v57 := Tryz.zeroValue221
  t63 := Tryz.underlying309
  a63 := Tryz.isAgg309
  z63 := Tryz.sizeOf309
  v63 := Tryz.zeroValue309
  t64 := Tryz.underlying260
  a64 := Tryz.isAgg260
  z64 := Tryz.sizeOf260
  v64 := Tryz.zeroValue260 }
end Go.Proofs
namespace Go.Proofs.YtcpophfchchpkaaGreatDoor
open Go Go.RowKit Go.Maps Go.Sort Go.Shelf
theorem sorts_A (m : Nat) : AnyZ.SortsIn Tryz.prog Tryz.sortedA_ren Fence.wide m :=
  ⟨fun blk off cap ss W hH hblk hsz => callsIn_wide.2 (AnyM.slices_Sort_string Tryz.sortA blk off cap ss W hH hblk hsz),
   fun p cap W => callsIn_wide.2 (AnyM.slices_Sort_string_none Tryz.sortA p cap W)⟩
set_option maxHeartbeats 1000000 in
theorem names_any {H : Type} (x b nn : Nat) (D0 : DataW H) (R : Value → Option (DataW H × List MemPlace)) (w : World) (hx : w.cell? ⟨x, 0, none⟩ = some (.map (some b))) (hown : w.ownsMap Tryz.prog 9 R b nn D0) (hmax : Maps.size D0 ≤ maxLen) (hbytes : Maps.size D0 * 16 ≤ 140737488355328) :
    Calls Tryz.prog 7 #[.pointer (some ⟨x, 0, none⟩)] w fun e w' => ∃ (v : Value) (ss : List (List UInt8)), e = .returned v ∧ ss.Perm (strKeys D0) ∧
      w'.ownsRow w.heap.size 9 1 v ss.length ((ss.mergeSort (fun x y => decide (x ≤ y))).map encStr) ∧ (v = .slice none 0 0 ↔ ss = []) ∧ Below w.heap.size w w' := by
  refine (callsIn_wide (n := 6)).1 ?_
  have hbl := hown.lt
  have hseq : SeqGives Fence.wide 2 Tryz.prog 41 #[.pointer (some ⟨w.heap.size, 0, none⟩)] encStr (fun ss => ss.Perm (strKeys D0)) (Maps.size D0) (w.alloc (.cells #[.map (some b)] 24)) :=
    AnyZ.keys_gives (ρ := Tryz.keysA_ren) { Tryz.keysA with } Fence.wide _ trivial rfl (by omega) w.heap.size b nn D0 _ (by simp) (by simp) (by
      obtain ⟨es, clock, hb, Ft, hs, hD⟩ := hown
      exact ⟨es, clock, (Below.heap_alloc _ _ b hbl).trans hb, Ft, hs, hD⟩)
  have cK : ∀ mb W, CallsIn Fence.wide 5 Tryz.prog 27 #[.map mb] W fun e w' => e = .returned (.func (.func 41) #[] #[.pointer (some ⟨W.heap.size, 0, none⟩)]) ∧ w' = W.alloc (.cells #[.map mb] 24) := fun mb W => AnyZ.keys_in Tryz.keysA Fence.wide 5 trivial rfl mb W
  have cS := AnyZ.sorted_in Tryz.sortedA Fence.wide 5 trivial trivial trivial trivial rfl (by omega) (sorts_A _) (enters_of Tryz.func40 (by kernel_rfl) rfl) 41 #[.pointer (some ⟨w.heap.size, 0, none⟩)] trivial (enters_of Tryz.func41 (by kernel_rfl) rfl) _ _ hmax hbytes _ hseq
  change CallsIn _ _ Tryz.prog 26 _ _ _ at cS
  have hfK : Fence.wide.fn 27 := trivial
  have hfS : Fence.wide.fn 26 := trivial
  refine callsIn_of_wp Tryz.func7 rfl trivial ?_ rfl
  simp only [Tryz.ntmps7, List.size_toArray, List.length_cons, List.length_nil, Nat.reduceAdd, Nat.reduceSub, Array.replicate_succ, Array.replicate_zero, List.push_toArray, List.append_toArray, List.nil_append, List.cons_append]
  gi_wp2_with (first
    | (gi_at_call 27; refine (cK _ _).mono ?_; rintro e w' ⟨rfl, rfl⟩)
    | (gi_at_call 26; refine cS.mono ?_; rintro e w' ⟨v, ss, rfl, hS, hrow, hnil, hb⟩))
  go_ret
  exact ⟨v, ss, rfl, hS, ownsRow_base_a hrow (by simp), hnil, ((Below.refl _ w).alloc (Nat.le_refl _) _).trans (hb.mono (by simp))⟩
end Go.Proofs.YtcpophfchchpkaaGreatDoor
namespace Go.Proofs.YtcpophfchchpkaaGreatDoor
open Go Go.RowKit Go.Maps Go.Sort Go.Shelf Go.MapKept
theorem insert_perm {H : Type} (x : Lit × DataW H) : ∀ l, (DataW.insert x l).Perm (x :: l)
  | [] => List.Perm.refl _
  | y :: l => by
    unfold DataW.insert
    split
    · exact List.Perm.refl _
    · exact ((insert_perm x l).cons y).trans (List.Perm.swap x y l)
theorem foldr_insert_perm {H : Type} : ∀ l : List (Lit × DataW H), (l.foldr DataW.insert []).Perm l
  | [] => List.Perm.refl _
  | x :: l => by
    rw [List.foldr_cons]
    exact (insert_perm x _).trans ((foldr_insert_perm l).cons x)
abbrev RZ2 : Value → Option (DataW Unit × List MemPlace) := fun _ => some (.nil, [])
theorem rd_str2 {k : ByteArray} (h : k.size ≤ maxLen) (v : Value) (c : Nat) : Go.WideElems.rd Tryz.prog 9 RZ2 ⟨.string k, v, c⟩ = some (.string k.data.toList, .nil) :=
  Go.WideElems.rd_mk (yv := (.nil, [])) (Go.WideMaps.keyOf_string_mk Tryz.underlying9 (s := k) h) rfl
theorem strOf_string (l : List UInt8) : strOf (.string l) = l := rfl
theorem rg_str2 {k : ByteArray} (h : k.size ≤ maxLen) (v : Value) (c : Nat) : strOf (Go.WideElems.rg Tryz.prog 9 RZ2 ⟨.string k, v, c⟩).1 = k.data.toList := by
  rw [Go.WideElems.rg_of (rd_str2 h v c)]
  exact strOf_string _
theorem map_rg {r : MapEntry → List UInt8} (hr : ∀ (k : ByteArray) v c, k.size ≤ maxLen → r ⟨.string k, v, c⟩ = k.data.toList) {l : List MapEntry} : ∀ {Y : List (ByteArray × Value)}, l.map (fun e => e.key) = Y.map (fun x => Value.string x.1) → (∀ y ∈ Y, y.1.size ≤ maxLen) → l.map r = Y.map fun x => x.1.data.toList := by
  induction l with
  | nil =>
    intro Y hy _
    cases Y with
    | nil => rfl
    | cons _ _ => cases hy
  | cons e l ih =>
    intro Y hy hk
    cases Y with
    | nil => cases hy
    | cons y Y =>
      rw [List.map_cons, List.map_cons] at hy
      injection hy with e1 e2
      rw [List.map_cons, List.map_cons, ih e2 (fun y' h' => hk y' (List.mem_cons_of_mem _ h'))]
      obtain ⟨ek, ev, eb⟩ := e
      have e1 : ek = .string y.1 := e1
      subst e1
      rw [hr _ _ _ (hk y List.mem_cons_self)]
/-- The keys of scripts. -/
def scK (X : List Sc) : List (List UInt8) := X.map fun x => x.1.data.toList
/-- The names that a lab says. -/
def scN (X : List Sc) : List (List UInt8) := (scK X).mergeSort (fun x y => decide (x ≤ y))
set_option maxRecDepth 100000 in
/-- A lab's map as the kit has it. -/
theorem LRep.owns {w : World} {b g : Nat} {X : List Sc} (h : LRep w b (some g) X) (hX : X.length ≤ 1000) : ∃ D0 : DataW Unit, w.ownsMap Tryz.prog 9 RZ2 g 1000 D0 ∧ Maps.size D0 = X.length ∧ (strKeys D0).Perm (scK X) := by
  obtain ⟨es, clock, hb, hE⟩ := h.map g rfl
  have hsz := hE.len
  have hlen : (scM X).length = X.length := by simp [scM]
  have hkey : ∀ e ∈ es.toList, ∃ k : ByteArray, k.size ≤ maxLen ∧ e.key = .string k := fun e he => by
    obtain ⟨x, hx, hk, _⟩ := hE.mem he
    exact ⟨x.1, hE.wf x hx, hk⟩
  have hrd : ∀ e ∈ es.toList, ∃ y, Go.WideElems.rd Tryz.prog 9 RZ2 e = some y := fun e he => by
    obtain ⟨k, hk, e2⟩ := hkey e he
    obtain ⟨ek, ev, eb⟩ := e
    have e2 : ek = .string k := e2
    subst e2
    exact ⟨_, rd_str2 hk ev eb⟩
  refine ⟨_, ⟨es, clock, hb, ⟨Nat.le_trans (by omega : es.size ≤ 1000) (by decide), hE.st, hrd⟩, by omega, rfl⟩, ?_, ?_⟩
  · simp only [Maps.size]
    rw [(foldr_insert_perm _).length_eq, List.length_map, Array.length_toList, hsz, hlen]
  · have h1 := (foldr_insert_perm (es.toList.map (Go.WideElems.rg Tryz.prog 9 RZ2))).map (fun p => strOf p.1)
    refine h1.trans ?_
    have h2 : (es.toList.map (Go.WideElems.rg Tryz.prog 9 RZ2)).map (fun p => strOf p.1) = scK X := by
      rw [List.map_map]
      have h3 : es.toList.map (fun e => e.key) = (scM X).map fun x => Value.string x.1 := by
        have := congrArg (List.map Prod.fst) hE.is
        rw [List.map_map, List.map_map] at this
        exact this
      have h4 := map_rg (r := fun e => strOf (Go.WideElems.rg Tryz.prog 9 RZ2 e).1) (fun k v c hk => rg_str2 hk v c) h3 (fun y hy => hE.wf y hy)
      unfold Function.comp
      refine h4.trans ?_
      simp [scM, scK]
    exact List.Perm.of_eq h2
set_option maxHeartbeats 1000000 in
theorem names_nil (x : Nat) (w : World) (hx : w.cell? ⟨x, 0, none⟩ = some (.map none)) :
    Calls Tryz.prog 7 #[.pointer (some ⟨x, 0, none⟩)] w fun e w' => ∃ (v : Value), e = .returned v ∧
      w'.ownsRow w.heap.size 9 1 v 0 [] ∧ Below w.heap.size w w' := by
  refine (callsIn_wide (n := 6)).1 ?_
  have hseq : SeqGives Fence.wide 2 Tryz.prog 41 #[.pointer (some ⟨w.heap.size, 0, none⟩)] encStr (fun ss : List (List UInt8) => ss = []) 0 (w.alloc (.cells #[.map none] 24)) :=
    AnyZ.keys_gives_nil (ρ := Tryz.keysA_ren) { Tryz.keysA with } Fence.wide _ trivial rfl w.heap.size _ (by simp) (by simp)
  have cK : ∀ mb W, CallsIn Fence.wide 5 Tryz.prog 27 #[.map mb] W fun e w' => e = .returned (.func (.func 41) #[] #[.pointer (some ⟨W.heap.size, 0, none⟩)]) ∧ w' = W.alloc (.cells #[.map mb] 24) := fun mb W => AnyZ.keys_in Tryz.keysA Fence.wide 5 trivial rfl mb W
  have cS := AnyZ.sorted_in Tryz.sortedA Fence.wide 5 trivial trivial trivial trivial rfl (by omega) (sorts_A _) (enters_of Tryz.func40 (by kernel_rfl) rfl) 41 #[.pointer (some ⟨w.heap.size, 0, none⟩)] trivial (enters_of Tryz.func41 (by kernel_rfl) rfl) _ _ (by unfold maxLen; omega) (by omega) _ hseq
  change CallsIn _ _ Tryz.prog 26 _ _ _ at cS
  have hfK : Fence.wide.fn 27 := trivial
  have hfS : Fence.wide.fn 26 := trivial
  refine callsIn_of_wp Tryz.func7 rfl trivial ?_ rfl
  simp only [Tryz.ntmps7, List.size_toArray, List.length_cons, List.length_nil, Nat.reduceAdd, Nat.reduceSub, Array.replicate_succ, Array.replicate_zero, List.push_toArray, List.append_toArray, List.nil_append, List.cons_append]
  gi_wp2_with (first
    | (gi_at_call 27; refine (cK _ _).mono ?_; rintro e w' ⟨rfl, rfl⟩)
    | (gi_at_call 26; refine cS.mono ?_; rintro e w' ⟨v, ss, rfl, hS, hrow, hnil, hb⟩))
  go_ret
  subst hS
  have e0 : ([] : List (List UInt8)).mergeSort (fun x y => decide (x ≤ y)) = [] := List.mergeSort_nil
  rw [e0] at hrow
  exact ⟨v, rfl, ownsRow_base_a hrow (by rw [World.size_alloc]; omega), ((Below.refl _ w).alloc (Nat.le_refl _) _).trans (hb.mono (by simp))⟩
/-- Names of a lab. -/
theorem names_lab (b : Nat) (m : Option Nat) (X : List Sc) (w : World) (h : LRep w b m X) (hX : X.length ≤ 1000) :
    Calls Tryz.prog 7 #[.pointer (some ⟨b, 0, none⟩)] w fun e w' => ∃ (v : Value), e = .returned v ∧
      w'.ownsRow w.heap.size 9 1 v (scN X).length ((scN X).map encStr) ∧ Below w.heap.size w w' := by
  cases m with
  | none =>
    have := h.no rfl
    subst this
    have e0 : scN [] = [] := List.mergeSort_nil
    rw [e0]
    exact names_nil b w h.cell
  | some g =>
    obtain ⟨D0, hown, hs, hp⟩ := h.owns hX
    refine (names_any b g 1000 D0 RZ2 w h.cell hown (by rw [hs]; unfold maxLen; omega) (by rw [hs]; omega)).mono ?_
    rintro e w' ⟨v, ss, rfl, hss, hrow, hnil, hb⟩
    have e1 : ss.mergeSort (fun x y => decide (x ≤ y)) = scN X := mergeSort_of_perm (hss.trans hp)
    have e2 : ss.length = (scN X).length := by rw [← e1, List.length_mergeSort]
    rw [e1, e2] at hrow
    exact ⟨v, rfl, hrow, hb⟩
end Go.Proofs.YtcpophfchchpkaaGreatDoor
namespace Go.Proofs.YtcpophfchchpkaaGreatDoor
open Go Go.RowKit Go.Maps Go.Sort Go.MapKept
/-- A name comes before another. -/
def nlt (a b : ByteArray) : Prop := a.data.toList < b.data.toList
instance (a b : ByteArray) : Decidable (nlt a b) := inferInstanceAs (Decidable (a.data.toList < b.data.toList))
theorem nlt_irrefl (a : ByteArray) : ¬ nlt a a := List.lt_irrefl _
theorem nlt_trans {a b c : ByteArray} (h : nlt a b) (k : nlt b c) : nlt a c := List.lt_trans h k
theorem ba_ext {a b : ByteArray} (h : a.data.toList = b.data.toList) : a = b := by
  cases a; cases b
  simp only [ByteArray.mk.injEq]
  exact Array.toList_inj.1 h
theorem nlt_or {a b : ByteArray} (h : a ≠ b) : nlt a b ∨ nlt b a := by
  by_cases h1 : nlt a b
  · exact .inl h1
  · by_cases h2 : nlt b a
    · exact .inr h2
    · exact absurd (ba_ext (List.le_antisymm (show a.data.toList ≤ b.data.toList from h2) (show b.data.toList ≤ a.data.toList from h1))) h
abbrev It := ByteArray × List UInt8
def itD (l : List Sc) : List It := l.map fun x => (x.1, x.2.1)
/-- In the order of the names. -/
def Asc (M : List Sc) : Prop := M.Pairwise fun a b => nlt a.1 b.1
/-- One step of 'with': whether x is in, and the list. -/
def withT (x : Sc) (s : Bool × List Sc) (y : Sc) : Bool × List Sc :=
  (s.1 || !decide (nlt y.1 x.1), (if s.1 = false ∧ ¬ nlt y.1 x.1 then s.2 ++ [x] else s.2) ++ (if y.1 = x.1 then [] else [y]))
def withS (x : Sc) (M : List Sc) : List Sc := if (M.foldl (withT x) (false, [])).1 then (M.foldl (withT x) (false, [])).2 else (M.foldl (withT x) (false, [])).2 ++ [x]
theorem with_up {x : Sc} : ∀ {M : List Sc} {o : List Sc}, (∀ y ∈ M, nlt x.1 y.1) → M.foldl (withT x) (true, o) = (true, o ++ M)
  | [], o, _ => by simp
  | y :: M, o, h => by
    have hy := h y List.mem_cons_self
    have hne : y.1 ≠ x.1 := fun e => nlt_irrefl x.1 (by rw [e] at hy; exact hy)
    rw [List.foldl_cons]
    have : withT x (true, o) y = (true, o ++ [y]) := by simp [withT, hne]
    rw [this, with_up (fun z hz => h z (List.mem_cons_of_mem _ hz))]
    simp
theorem with_asc {x : Sc} : ∀ {M : List Sc} {o : List Sc}, Asc M → (if (M.foldl (withT x) (false, o)).1 then (M.foldl (withT x) (false, o)).2 else (M.foldl (withT x) (false, o)).2 ++ [x]) = o ++ (M.filter (fun y => decide (nlt y.1 x.1)) ++ x :: M.filter (fun y => decide (nlt x.1 y.1)))
  | [], o, _ => by simp
  | y :: M, o, h => by
    rw [Asc, List.pairwise_cons] at h
    obtain ⟨h1, h2⟩ := h
    rw [List.foldl_cons]
    by_cases hlt : nlt y.1 x.1
    · have hne : y.1 ≠ x.1 := fun e => nlt_irrefl x.1 (by rw [e] at hlt; exact hlt)
      have hno : ¬ nlt x.1 y.1 := fun e => nlt_irrefl x.1 (nlt_trans e hlt)
      have : withT x (false, o) y = (false, o ++ [y]) := by simp [withT, hne, hlt]
      rw [this, with_asc h2]
      simp [hlt, hno]
    · have hup : ∀ z ∈ M, nlt x.1 z.1 := fun z hz => by
        by_cases e : y.1 = x.1
        · rw [← e]; exact h1 z hz
        · rcases nlt_or e with e | e
          · exact absurd e hlt
          · exact nlt_trans e (h1 z hz)
      have hlo : M.filter (fun y => decide (nlt y.1 x.1)) = [] := List.filter_eq_nil_iff.2 (fun z hz => by
        have := hup z hz
        simp only [decide_eq_true_eq]
        exact fun e => nlt_irrefl x.1 (nlt_trans this e))
      have hhi : M.filter (fun y => decide (nlt x.1 y.1)) = M := List.filter_eq_self.2 (fun z hz => decide_eq_true (hup z hz))
      by_cases e : y.1 = x.1
      · have : withT x (false, o) y = (true, o ++ [x]) := by simp [withT, e, nlt_irrefl]
        rw [this, with_up hup, List.filter_cons_of_neg (by simp [e, nlt_irrefl]), List.filter_cons_of_neg (by simp [e, nlt_irrefl]), hlo, hhi]
        simp
      · have hxy : nlt x.1 y.1 := (nlt_or e).resolve_left hlt
        have : withT x (false, o) y = (true, o ++ [x] ++ [y]) := by simp [withT, e, hlt]
        rw [this, with_up hup, List.filter_cons_of_neg (by simpa using hlt), List.filter_cons_of_pos (by simpa using hxy), hlo, hhi]
        simp
theorem withS_eq {x : Sc} {M : List Sc} (h : Asc M) : withS x M = M.filter (fun y => decide (nlt y.1 x.1)) ++ x :: M.filter (fun y => decide (nlt x.1 y.1)) := by
  have := with_asc (x := x) (o := []) h
  simpa [withS] using this
theorem withS_asc {x : Sc} {M : List Sc} (h : Asc M) : Asc (withS x M) := by
  rw [withS_eq h]
  refine List.pairwise_append.2 ⟨h.filter _, List.pairwise_cons.2 ⟨fun z hz => of_decide_eq_true (List.mem_filter.1 hz).2, h.filter _⟩, fun a ha b hb => ?_⟩
  have h1 := of_decide_eq_true (List.mem_filter.1 ha).2
  rcases List.mem_cons.1 hb with rfl | hb
  · exact h1
  · exact nlt_trans h1 (of_decide_eq_true (List.mem_filter.1 hb).2)
theorem three_perm (x : Sc) : ∀ M : List Sc, (M.filter (fun y => decide (nlt y.1 x.1)) ++ x :: M.filter (fun y => decide (nlt x.1 y.1))).Perm (x :: M.filter (fun y => decide (y.1 ≠ x.1)))
  | [] => by simp
  | y :: M => by
    have ih := three_perm x M
    by_cases e : y.1 = x.1
    · rw [List.filter_cons_of_neg (by simp [e, nlt_irrefl]), List.filter_cons_of_neg (by simp [e, nlt_irrefl]), List.filter_cons_of_neg (by simp [e])]
      exact ih
    · rw [List.filter_cons_of_pos (p := fun y : Sc => decide (y.1 ≠ x.1)) (by simpa using e)]
      have fin : (y :: (M.filter (fun y => decide (nlt y.1 x.1)) ++ x :: M.filter (fun y => decide (nlt x.1 y.1)))).Perm (x :: y :: M.filter (fun y => decide (y.1 ≠ x.1))) := (ih.cons y).trans (List.Perm.swap x y _)
      rcases nlt_or e with h | h
      · rw [List.filter_cons_of_pos (by simpa using h), List.filter_cons_of_neg (by simp only [decide_eq_true_eq]; exact fun k => nlt_irrefl _ (nlt_trans h k))]
        exact fin
      · rw [List.filter_cons_of_neg (by simp only [decide_eq_true_eq]; exact fun k => nlt_irrefl _ (nlt_trans h k)), List.filter_cons_of_pos (by simpa using h)]
        refine List.Perm.trans ?_ fin
        have : (M.filter (fun y => decide (nlt y.1 x.1)) ++ x :: y :: M.filter (fun y => decide (nlt x.1 y.1))).Perm (M.filter (fun y => decide (nlt y.1 x.1)) ++ y :: x :: M.filter (fun y => decide (nlt x.1 y.1))) := List.Perm.append_left _ (List.Perm.swap y x _)
        exact this.trans List.perm_middle
/-- The lab's map and the list hold the same. -/
structure LM (X M : List Sc) : Prop where
  perm : (itD X).Perm (itD M)
  asc : Asc M
  nd : (X.map Prod.fst).Nodup
theorem Asc.nodup {M : List Sc} (h : Asc M) : (M.map Prod.fst).Nodup := by
  unfold List.Nodup
  rw [List.pairwise_map]
  refine h.imp (fun {a b} h e => ?_)
  rw [← e] at h
  exact nlt_irrefl _ h
theorem itD_fst (l : List Sc) : (itD l).map Prod.fst = l.map Prod.fst := by simp [itD]
theorem mget_perm {β : Type} {L1 L2 : List (ByteArray × β)} (h : L1.Perm L2) (hn : (L1.map Prod.fst).Nodup) (k : ByteArray) : mget L1 k = mget L2 k := by
  have hn2 : (L2.map Prod.fst).Nodup := (h.map _).nodup_iff.1 hn
  cases h1 : mget L1 k with
  | some v => exact (mget_mem hn2 (h.mem_iff.1 (mget_some h1))).symm
  | none =>
    cases h2 : mget L2 k with
    | none => rfl
    | some v => exact absurd rfl (mget_none h1 _ (h.mem_iff.2 (mget_some h2)))
theorem itD_get (X : List Sc) (k : ByteArray) : mget (itD X) k = (scG X k).map Prod.fst := by
  show mget (X.map fun x => (x.1, (fun y : List UInt8 × Value => y.1) x.2)) k = _
  rw [mget_map]; rfl
theorem LM.get {X M : List Sc} (h : LM X M) (k : ByteArray) : (scG X k).map Prod.fst = mget (itD M) k := by
  rw [← itD_get]
  exact mget_perm h.perm (by rw [itD_fst]; exact h.nd) k
theorem LM.no {X M : List Sc} (h : LM X M) {k : ByteArray} (hk : ∀ p ∈ M, p.1 ≠ k) : scG X k = none := by
  have := h.get k
  cases hs : mget (itD M) k with
  | none => rw [hs] at this; simpa using this
  | some v =>
    obtain ⟨x, hx, e⟩ := List.mem_map.1 (mget_some hs)
    injection e with e _
    exact absurd e (hk x hx)
theorem LM.yes {X M : List Sc} (h : LM X M) {p : Sc} (hp : p ∈ M) : ∃ u, scG X p.1 = some (p.2.1, u) := by
  have := h.get p.1
  rw [mget_mem (by rw [itD_fst]; exact h.asc.nodup) (show (p.1, p.2.1) ∈ itD M from List.mem_map.2 ⟨p, hp, rfl⟩)] at this
  cases hs : scG X p.1 with
  | none => rw [hs] at this; cases this
  | some y =>
    rw [hs] at this
    injection this with this
    exact ⟨y.2, by rw [← this]⟩
theorem LM.len {X M : List Sc} (h : LM X M) : X.length = M.length := by
  have := h.perm.length_eq
  simpa [itD] using this
theorem map_perm {k : ByteArray} {y : List UInt8 × Value} : ∀ {X : List Sc}, (X.map Prod.fst).Nodup → (∃ x ∈ X, x.1 = k) → (X.map fun x => if x.1 = k then (k, y) else x).Perm ((k, y) :: X.filter fun x => decide (x.1 ≠ k))
  | [], _, ⟨x, hx, _⟩ => by cases hx
  | z :: X, hn, hk => by
    rw [List.map_cons, List.nodup_cons] at hn
    by_cases e : z.1 = k
    · have hno : ∀ x ∈ X, x.1 ≠ k := fun x hx e2 => hn.1 (List.mem_map.2 ⟨x, hx, e2.trans e.symm⟩)
      rw [List.map_cons, if_pos e, List.filter_cons_of_neg (by simp [e]), List.filter_eq_self.2 (fun x hx => by simpa using hno x hx)]
      refine List.Perm.cons _ (List.Perm.of_eq ?_)
      refine (List.map_congr_left (fun x hx => if_neg (hno x hx))).trans (List.map_id _)
    · rw [List.map_cons, if_neg e, List.filter_cons_of_pos (by simpa using e)]
      obtain ⟨x, hx, hxk⟩ := hk
      rcases List.mem_cons.1 hx with rfl | hx
      · exact absurd hxk e
      · exact ((map_perm hn.2 ⟨x, hx, hxk⟩).cons z).trans (List.Perm.swap _ _ _)
theorem putX_perm {X : List Sc} (hn : (X.map Prod.fst).Nodup) (k : ByteArray) (y : List UInt8 × Value) : (putX X k y).Perm ((k, y) :: X.filter fun x => decide (x.1 ≠ k)) := by
  unfold putX
  cases hs : scG X k with
  | some z =>
    simp only [Option.isSome_some, if_true]
    exact map_perm hn ⟨_, mget_some hs, rfl⟩
  | none =>
    rw [if_neg (by decide), List.filter_eq_self.2 (fun x hx => by simpa using mget_none hs x hx)]
    exact List.perm_append_singleton _ _
theorem itD_filter (l : List Sc) (k : ByteArray) : itD (l.filter fun x => decide (x.1 ≠ k)) = (itD l).filter fun x => decide (x.1 ≠ k) := by
  unfold itD
  rw [List.filter_map]
  rfl
theorem nodup_put {X : List Sc} (hn : (X.map Prod.fst).Nodup) (k : ByteArray) (y : List UInt8 × Value) : ((putX X k y).map Prod.fst).Nodup := by
  have h := (putX_perm hn k y).map Prod.fst
  rw [h.nodup_iff, List.map_cons, List.nodup_cons]
  refine ⟨fun hm => ?_, ?_⟩
  · obtain ⟨x, hx, e⟩ := List.mem_map.1 hm
    have := of_decide_eq_true (List.mem_filter.1 hx).2
    exact this e
  · exact hn.sublist (List.filter_sublist.map _)
theorem LM.put {X M : List Sc} (h : LM X M) (k : ByteArray) (bs : List UInt8) (u v : Value) : LM (putX X k (bs, u)) (withS (k, bs, v) M) := by
  refine ⟨?_, withS_asc h.asc, nodup_put h.nd _ _⟩
  have h1 : (itD (putX X k (bs, u))).Perm (itD ((k, bs, u) :: X.filter fun x => decide (x.1 ≠ k))) := (putX_perm h.nd k (bs, u)).map _
  have h2 : (itD (withS (k, bs, v) M)).Perm (itD ((k, bs, v) :: M.filter fun x => decide (x.1 ≠ k))) := by
    rw [withS_eq h.asc]
    exact (three_perm (k, bs, v) M).map _
  refine h1.trans (List.Perm.trans ?_ h2.symm)
  show ((k, bs) :: itD (X.filter fun x => decide (x.1 ≠ k))).Perm ((k, bs) :: itD (M.filter fun x => decide (x.1 ≠ k)))
  rw [itD_filter, itD_filter]
  exact (h.perm.filter _).cons _
theorem LM.del {X M : List Sc} (h : LM X M) {i : Nat} {p : Sc} (hi : M[i]? = some p) : LM (mdel X p.1) (M.eraseIdx i) := by
  have e : M.eraseIdx i = mdel M p.1 := mdel_at h.asc.nodup (by rw [hi])
  rw [e]
  refine ⟨?_, h.asc.filter _, h.nd.sublist (List.filter_sublist.map _)⟩
  unfold mdel
  rw [itD_filter, itD_filter]
  exact h.perm.filter _
theorem LM.names {X M : List Sc} (h : LM X M) : scN X = M.map fun x => x.1.data.toList := by
  have h1 : (scK X).Perm (M.map fun x => x.1.data.toList) := by
    have := h.perm.map (fun x : It => x.1.data.toList)
    unfold itD at this
    rw [List.map_map, List.map_map] at this
    exact this
  have h2 := mergeSort_of_perm h1
  refine h2.trans (List.mergeSort_of_pairwise ?_)
  rw [List.pairwise_map]
  exact h.asc.imp (fun {a b} h => by simpa using List.le_of_lt h)
theorem LM.nil : LM [] [] := ⟨List.Perm.refl _, .nil, .nil⟩
end Go.Proofs.YtcpophfchchpkaaGreatDoor
namespace Go.Proofs.YtcpophfchchpkaaGreatDoor
open Go Go.RowKit Go.Maps Go.MapKept
/-- The cells of an item. -/
def itc (x : Sc) : List Value := [.string x.1, x.2.2]
def its (l : List Sc) : List Value := l.flatMap itc
theorem its_len (l : List Sc) : (its l).length = l.length * 2 := by
  induction l with
  | nil => rfl
  | cons x l ih => have : (its (x :: l)).length = (its l).length + 2 := by simp [its, itc]
                   rw [this, ih, List.length_cons]; omega
theorem its_app (l m : List Sc) : its (l ++ m) = its l ++ its m := by simp [its]
theorem its_at : ∀ (l : List Sc) (i j : Nat) (p : Sc), l[i]? = some p → j < 2 → (its l)[i * 2 + j]? = (itc p)[j]?
  | [], i, j, p, h, _ => by simp at h
  | q :: l, 0, j, p, h, hj => by
    have e : q = p := by simpa using h
    subst e
    rw [show its (q :: l) = itc q ++ its l from rfl, List.getElem?_append_left (by simp [itc]; omega)]
    simp
  | q :: l, i + 1, j, p, h, hj => by
    rw [show its (q :: l) = itc q ++ its l from rfl, List.getElem?_append_right (by simp [itc]; omega)]
    have e : (i + 1) * 2 + j - (itc q).length = i * 2 + j := by simp [itc]; omega
    rw [e]
    exact its_at l i j p (by simpa using h) hj
/-- A slice that reads as items: old ones below B, or a row of items. -/
structure ItsAt (w : World) (B : Nat) (v : Value) (ps : List Sc) : Prop where
  form : ∃ A cap, v = .slice A ps.length cap ∧ ps.length ≤ cap ∧ cap ≤ maxLen ∧ (A = none → ps.length = 0) ∧
    (0 < ps.length → ∃ b off, A = some ⟨b, off, none⟩ ∧ b < w.heap.size ∧ (b < B ∨ ∃ c fr, w.heap[b]? = some (.cells c 37 fr)) ∧ ∀ i p, ps[i]? = some p → ∀ j u, (itc p)[j]? = some u → w.cell? ⟨b, off + (i * 2 + j), none⟩ = some u)
  vals : ∀ p ∈ ps, Bts w B 5 p.2.2 p.2.1
section
variable {w w' : World} {B : Nat} {v : Value} {ps : List Sc}
theorem ItsAt.keep (h : ItsAt w B v ps) (hb : KeepB B 5 w w') (hi : KeepB B 37 w w') : ItsAt w' B v ps := by
  obtain ⟨⟨A, cap, e, h1, h2, h3, h4⟩, h5⟩ := h
  refine ⟨⟨A, cap, e, h1, h2, h3, fun hp => ?_⟩, fun p hp => (h5 p hp).keep hb⟩
  obtain ⟨b, off, hA, hlt, ht, hc⟩ := h4 hp
  have e2 := hi.2 b hlt ht
  refine ⟨b, off, hA, Nat.lt_of_lt_of_le hlt hb.1, ?_, fun i p hi j u hu => ?_⟩
  · rcases ht with ht | ⟨c, fr, ht⟩
    · exact .inl ht
    · exact .inr ⟨c, fr, e2.trans ht⟩
  · rw [World.cell?_of_block (w := w) (a := ⟨b, off + (i * 2 + j), none⟩) e2]
    exact hc i p hi j u hu
theorem ItsAt.below (h : ItsAt w B v ps) (hb : Below w.heap.size w w') : ItsAt w' B v ps := h.keep (KeepB.of_below hb) (KeepB.of_below hb)
theorem ItsAt.slice (h : ItsAt w B v ps) : ∃ A cap, v = .slice A ps.length cap ∧ ps.length ≤ cap ∧ cap ≤ maxLen := by obtain ⟨⟨A, cap, e, h1, h2, _⟩, _⟩ := h; exact ⟨A, cap, e, h1, h2⟩
theorem ItsAt.at_ {A : Option Addr} {n cap : Nat} (h : ItsAt w B (.slice A n cap) ps) {i : Nat} {p : Sc} (hi : ps[i]? = some p) : ∃ b off, A = some ⟨b, off, none⟩ ∧ b < w.heap.size ∧ w.cell? ⟨b, off + i * 2, none⟩ = some (.string p.1) ∧ w.cell? ⟨b, off + i * 2 + 1, none⟩ = some p.2.2 := by
  obtain ⟨⟨A', cap', e, h1, h2, h3, h4⟩, h5⟩ := h
  injection e with e1 e2 e3
  subst e1
  have hl := (List.getElem?_eq_some_iff.1 hi).1
  obtain ⟨b, off, hA, hlt, _, hc⟩ := h4 (by omega)
  exact ⟨b, off, hA, hlt, hc i p hi 0 _ rfl, hc i p hi 1 _ rfl⟩
theorem ItsAt.nil (w : World) (B : Nat) : ItsAt w B (.slice none 0 0) [] := ⟨⟨none, 0, rfl, Nat.le_refl _, Nat.zero_le _, fun _ => rfl, fun h => by simp at h⟩, fun p hp => by simp at hp⟩
theorem ItsAt.of_own {base : Nat} (h : w.ownsRow base 37 2 v ps.length (its ps)) (hv : ∀ p ∈ ps, Bts w B 5 p.2.2 p.2.1) : ItsAt w B v ps := by
  refine ⟨?_, hv⟩
  rcases h.2 with ⟨rfl, h0⟩ | ⟨g, cap, cur, rfl, hg, hh, h1, h2, h3, h4⟩
  · exact ⟨none, 0, by rw [h0], by omega, Nat.zero_le _, fun _ => h0, fun hp => by omega⟩
  · refine ⟨some ⟨g, 0, none⟩, cap, rfl, h1, h2, (fun h => by cases h), fun _ => ⟨g, 0, rfl, lt_of_heap hh, .inr ⟨_, _, hh⟩, fun i p hi j u hu => ?_⟩⟩
    have hj : j < 2 := by have := (List.getElem?_eq_some_iff.1 hu).1; simpa [itc] using this
    have := h.cells (g := g) rfl (i * 2 + j) u (by rw [its_at ps i j p hi hj]; exact hu)
    rw [add_plain] at this
    exact this
theorem ItsAt.src (h : ItsAt w B v ps) : ∃ A cap, v = .slice A ps.length cap ∧ Src w 2 A ps.length (its ps) := by
  obtain ⟨⟨A, cap, hv, _, _, hn, hr⟩, _⟩ := h
  refine ⟨A, cap, hv, its_len ps, hn, fun a ha j u hu => ?_⟩
  have hj : j < ps.length * 2 := by rw [← its_len]; exact (List.getElem?_eq_some_iff.1 hu).1
  obtain ⟨b, off, hA, _, _, hc⟩ := hr (by omega)
  rw [ha] at hA
  injection hA with hA
  subst hA
  obtain ⟨p, hp⟩ : ∃ p, ps[j / 2]? = some p := ⟨_, List.getElem?_eq_getElem (by omega)⟩
  have e : j / 2 * 2 + j % 2 = j := by omega
  rw [add_plain, ← e]
  exact hc _ p hp _ u (by rw [← its_at ps _ _ p hp (by omega), e]; exact hu)
theorem its_one (ps : List Sc) (h : ∀ p ∈ ps, ∃ A n c, p.2.2 = .slice A n c) : ∀ u ∈ its ps, u.oneCell' = true := by
  intro u hu
  obtain ⟨p, hp, hu⟩ := List.mem_flatMap.1 hu
  obtain ⟨A, n, c, e⟩ := h p hp
  simp only [itc, List.mem_cons, List.not_mem_nil, or_false] at hu
  rcases hu with rfl | rfl
  · rfl
  · rw [e]; rfl
theorem ItsAt.slices (h : ItsAt w B v ps) : ∀ p ∈ ps, ∃ A n c, p.2.2 = .slice A n c := fun p hp => by
  obtain ⟨A, c, e⟩ := (h.vals p hp).form
  exact ⟨A, _, c, e⟩
end
end Go.Proofs.YtcpophfchchpkaaGreatDoor
namespace Go.Proofs.YtcpophfchchpkaaGreatDoor
open Go Go.RowKit Go.Maps Go.MapKept Go.Sort
theorem str_eqb (a b : ByteArray) : (a.toList == b.toList) = decide (a = b) := by
  by_cases h : a = b
  · subst h; simp
  · rw [decide_eq_false h, beq_eq_false_iff_ne]
    intro e
    rw [ByteArray.toList_eq, ByteArray.toList_eq] at e
    exact h (WideShapes.bytes_inj e)
theorem str_lt (a b : ByteArray) : Op.bytesLess a.toList b.toList = decide (nlt a b) := by
  rw [bytesLess_eq, ByteArray.toList_eq, ByteArray.toList_eq]
  rfl
/-- What 'few' says. -/
def FewI (ps : List Sc) (most size : Nat) (b : Bool) : Prop := b = true → ps.length ≤ most ∧ ∀ p ∈ ps, p.1.size ≤ 60 ∧ p.2.1.length ≤ size
def FewIR (ps : List Sc) (most size : Nat) (w : World) (e : Ending) (w' : World) : Prop := ∃ b, e = .returned (.bool b) ∧ FewI ps most size b ∧ w' = w
set_option maxRecDepth 100000 in
set_option maxHeartbeats 4000000 in
theorem fewI_any (B : Nat) (v : Value) (ps : List Sc) (most size : Nat) (w : World) (h : ItsAt w B v ps) (hm : most ≤ 1000 ∧ size ≤ 10000) :
    Calls Tryz.prog 8 #[v, .int .i64 most, .int .i64 size] w (FewIR ps most size w) := by
  obtain ⟨A, cap, rfl, hcl, hcm⟩ := h.slice
  unfold maxLen at hcm
  have HI := Lib.hid h
  obtain ⟨n, hn⟩ : ∃ n, ps.length = n := ⟨_, rfl⟩
  have HN := Lib.hid hn
  rw [hn] at HI hcl ⊢
  clear h hn
  go_enter Tryz.func8, Tryz.ntmps8
  go_wp2_with fail
  go_loopw [7] (fun i wr => ∃ k, k ≤ n ∧ k ≤ most ∧ i = .int .i64 k ∧ wr = w ∧ ∀ j p, j < k → ps[j]? = some p → p.1.size ≤ 60 ∧ p.2.1.length ≤ size) (fun i _ => n - (intOf i).toNat)
  case atStart => exact ⟨0, Nat.zero_le _, Nat.zero_le _, rfl, rfl, fun j p hj => absurd hj (Nat.not_lt_zero _)⟩
  case round =>
    obtain ⟨k, hk, hkm, rfl, rfl, hno⟩ := hrel
    have HNo := Lib.hid hno
    clear hno
    by_cases hlt : k < n
    · have hltI : (k : Int) < (n : Int) := by omega
      by_cases hlm : k < most
      · have hlmI : (k : Int) < (most : Int) := by omega
        obtain ⟨p, hp⟩ : ∃ p, ps[k]? = some p := ⟨_, List.getElem?_eq_getElem (by rw [HN.out]; exact hlt)⟩
        obtain ⟨b, off, rfl, hbl, y0, y1⟩ := HI.out.at_ hp
        have hv := HI.out.vals p (List.mem_of_getElem? hp)
        have HP := Lib.hid hp
        obtain ⟨x, u, V⟩ := p
        dsimp only at y0 y1 hv
        obtain ⟨VA, vc, rfl⟩ := hv.form
        have hvl := hv.le
        unfold maxLen at hvl
        clear hp hv
        by_cases hs : 60 < x.size
        · have hsI : (60 : Int) < (x.size : Int) := by omega
          go_wp2_with fail
          go_ret
          exact ⟨_, rfl, (fun h => by cases h), rfl⟩
        · have hsI : ¬ (60 : Int) < (x.size : Int) := by omega
          by_cases hd : size < u.length
          · have hdI : (size : Int) < (u.length : Int) := by omega
            go_wp2_with fail
            go_ret
            exact ⟨_, rfl, (fun h => by cases h), rfl⟩
          · have hdI : ¬ (size : Int) < (u.length : Int) := by omega
            go_wp2_with fail
            go_roundw
            case rel =>
              refine ⟨k + 1, by omega, by omega, by go_num, by first | rfl | trivial, fun j p hj hp => ?_⟩
              by_cases e : j = k
              · subst e
                rw [HP.out] at hp
                injection hp with hp
                subst hp
                exact ⟨by dsimp only; omega, by dsimp only; omega⟩
              · exact HNo.out j p (by omega) hp
            case measure => simp [intOf]; omega
      · have hlmI : ¬ (k : Int) < (most : Int) := by omega
        have hgt : ¬ (n : Int) ≤ (most : Int) := by omega
        go_wp2_with fail
        go_ret
        exact ⟨_, rfl, (fun h => by cases h), rfl⟩
    · obtain rfl : k = n := by omega
      have hgt : (k : Int) ≤ (most : Int) := by omega
      go_wp2_with fail
      go_ret
      refine ⟨_, rfl, fun _ => ⟨by rw [HN.out]; exact hkm, fun p hp => ?_⟩, rfl⟩
      obtain ⟨j, hj⟩ := List.getElem?_of_mem hp
      exact HNo.out j p (by rw [← HN.out]; exact (List.getElem?_eq_some_iff.1 hj).1) hj
/-- What 'find' says. -/
def FindI (M : List Sc) (k : ByteArray) (r : Int) : Prop := (r = -1 ∧ ∀ p ∈ M, p.1 ≠ k) ∨ (∃ (i : Nat) (p : Sc), r = (i : Int) ∧ M[i]? = some p ∧ p.1 = k)
set_option maxRecDepth 100000 in
set_option maxHeartbeats 4000000 in
theorem find_any (B : Nat) (v : Value) (ps : List Sc) (x : ByteArray) (w : World) (h : ItsAt w B v ps) :
    Calls Tryz.prog 9 #[v, .string x] w fun e w' => ∃ r, e = .returned (.int .i64 r) ∧ FindI ps x r ∧ w' = w := by
  obtain ⟨A, cap, rfl, hcl, hcm⟩ := h.slice
  unfold maxLen at hcm
  have HI := Lib.hid h
  obtain ⟨n, hn⟩ : ∃ n, ps.length = n := ⟨_, rfl⟩
  have HN := Lib.hid hn
  rw [hn] at HI hcl ⊢
  clear h hn
  go_enter Tryz.func9, Tryz.ntmps9
  go_wp2_with fail
  go_loopw [5] (fun i wr => ∃ k, k ≤ n ∧ i = .int .i64 k ∧ wr = w ∧ ∀ (j : Nat) (p : Sc), j < k → ps[j]? = some p → p.1 ≠ x) (fun i _ => n - (intOf i).toNat)
  case atStart => exact ⟨0, Nat.zero_le _, rfl, rfl, fun j p hj => absurd hj (Nat.not_lt_zero _)⟩
  case round =>
    obtain ⟨k, hk, rfl, rfl, hno⟩ := hrel
    have HNo := Lib.hid hno
    clear hno
    by_cases hlt : k < n
    · have hltI : (k : Int) < (n : Int) := by omega
      obtain ⟨p, hp⟩ : ∃ p, ps[k]? = some p := ⟨_, List.getElem?_eq_getElem (by rw [HN.out]; exact hlt)⟩
      obtain ⟨b, off, rfl, hbl, y0, -⟩ := HI.out.at_ hp
      have HP := Lib.hid hp
      obtain ⟨y, u, V⟩ := p
      dsimp only at y0
      have he := str_eqb y x
      clear hp
      by_cases e : y = x
      · rw [decide_eq_true e] at he
        have HE := Lib.hid e
        clear e
        go_wp2_with fail
        go_ret
        exact ⟨_, rfl, .inr ⟨k, _, rfl, HP.out, HE.out⟩, rfl⟩
      · rw [decide_eq_false e] at he
        have HE := Lib.hid e
        clear e
        go_wp2_with fail
        go_roundw
        case rel =>
          refine ⟨k + 1, by omega, by go_num, by first | rfl | trivial, fun j p hj hp => ?_⟩
          by_cases e : j = k
          · subst e
            rw [HP.out] at hp
            injection hp with hp
            subst hp
            exact HE.out
          · exact HNo.out j p (by omega) hp
        case measure => simp [intOf]; omega
    · obtain rfl : k = n := by omega
      go_wp2_with fail
      go_ret
      refine ⟨_, rfl, .inl ⟨rfl, fun p hp => ?_⟩, rfl⟩
      obtain ⟨j, hj⟩ := List.getElem?_of_mem hp
      exact HNo.out j p (by rw [← HN.out]; exact (List.getElem?_eq_some_iff.1 hj).1) hj
end Go.Proofs.YtcpophfchchpkaaGreatDoor

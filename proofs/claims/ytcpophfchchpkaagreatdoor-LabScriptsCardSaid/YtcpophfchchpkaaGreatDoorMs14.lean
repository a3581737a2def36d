/- SymCS, SymCT, SymCU, SymCV -/
import Derived.Test.YtcpophfchchpkaaGreatDoorMs13
namespace Go.Sy
open Go Go.RowKit
section
variable {P : Program}
/-- The same cells, by two symbols. -/
theorem blkR_cells {s s' : Sg} {x x' : Nat} {t : TypeId} {m : Nat} {ex mk : Bool} {z z' : Nat → Option AV} {c c' : T AV} {l l' : List AV} {o : Obj} (h1 : cellsAt z m c m 0 = some l) (h2 : cellsAt z' m c' m 0 = some l')
    (hcap : ex = true ∨ s'.cap x' = s.cap x) (hl : concL s' l' = concL s l) (h : BlkR P s x (.row t z m c ex mk) o) : BlkR P s' x' (.row t z' m c' ex mk) o := by
  cases o with
  | cells a t' fz =>
    obtain ⟨k1, k2, k3, k4, k5⟩ := h
    refine ⟨k1, k2, fun i A' hA' => ?_, ?_, k5⟩
    · have hlt := cellAt_lt hA'
      obtain ⟨p1, _⟩ := (cellsAt_get h2).2 i hlt
      rw [Nat.zero_add, hA'] at p1
      obtain ⟨q1, q2⟩ := (cellsAt_get h1).2 i hlt
      rw [Nat.zero_add] at q1 q2
      obtain ⟨A, hA⟩ := Option.isSome_iff_exists.1 q2
      obtain ⟨V, v1, v2, v3⟩ := k3 i A hA
      refine ⟨V, ?_, v2, v3⟩
      rw [hA] at q1
      have key : ∀ (r : List AV) (r' : List AV) (u u' : Sg), concL u' r' = concL u r → r.length = r'.length → ∀ (j : Nat) (B B' : AV) (W : Value), r[j]? = some B → r'[j]? = some B' → B.conc u = some W → (concL u r).isSome → B'.conc u' = some W := by
        intro r
        induction r with
        | nil => intro r' u u' _ _ j B B' W h; simp at h
        | cons a r ih =>
          intro r' u u' he hln j B B' W hB hB' hW hsm
          cases r' with
          | nil => simp at hln
          | cons a' r' =>
            obtain ⟨vs, hvs⟩ := Option.isSome_iff_exists.1 hsm
            obtain ⟨y, ys, e1, e2, rfl⟩ := concL_cons.1 hvs
            rw [hvs] at he
            obtain ⟨y', ys', e1', e2', e3⟩ := concL_cons.1 he
            injection e3 with e3 e4
            subst e3 e4
            cases j with
            | zero =>
              simp only [List.getElem?_cons_zero, Option.some.injEq] at hB hB'
              subst hB hB'
              rw [e1] at hW
              rw [e1', hW]
            | succ j => exact ih r' u u' (by rw [e2', e2]) (by simpa using hln) j B B' W (by simpa using hB) (by simpa using hB') hW (by rw [e2]; rfl)
      have hsm : (concL s l).isSome := by
        have : ∀ (r : List AV), (∀ (j : Nat) (B : AV), r[j]? = some B → ∃ W, B.conc s = some W) → (concL s r).isSome := by
          intro r
          induction r with
          | nil => intro _; rfl
          | cons a r ih =>
            intro hr
            obtain ⟨W, hW⟩ := hr 0 a rfl
            obtain ⟨ws, hws⟩ := Option.isSome_iff_exists.1 (ih (fun j B hB => hr (j + 1) B (by simpa using hB)))
            rw [concL_cons.2 ⟨W, ws, hW, hws, rfl⟩]; rfl
        refine this l fun j B hB => ?_
        have hj : j < m := by have := (List.getElem?_eq_some_iff.1 hB).1; rw [(cellsAt_get h1).1] at this; exact this
        obtain ⟨r1, r2⟩ := (cellsAt_get h1).2 j hj
        rw [Nat.zero_add, hB] at r1
        obtain ⟨V', v1', _, _⟩ := k3 j B r1.symm
        exact ⟨V', v1'⟩
      exact key l l' s s' hl (by rw [(cellsAt_get h1).1, (cellsAt_get h2).1]) i A A' V q1 p1 v1 hsm
    · rcases hcap with h | h
      · subst h; exact k4
      · rw [h]; exact k4
  | _ => exact h.elim
theorem tell_row {gm : Nat → Option Nat} {n1 : Nat} {H Hs Hs1 : Heap} {y x : Nat} {t : TypeId} {m : Nat} {ex mk : Bool} {z z0 z1 : Nat → Option AV} {c c0 c1 : T AV} {l l' : List AV}
    (hg : gm y = some x) (hlt : y < n1 ∧ x < LIM) (hb : Q8.get H x = some (.row t z m c ex mk)) (hbl : cellsAt z m c m 0 = some l)
    (hs : Q8.get Hs y = some (.row t z0 m c0 ex mk)) (hsl : cellsAt z0 m c0 m 0 = some l')
    (h1 : Q8.get Hs1 y = some (.row t z1 m c1 ex mk)) (h1l : cellsAt z1 m c1 m 0 = some l')
    (hin : ∀ s, concL (s.part gm) l' = concL s l) (hback : ∀ s s' : Sg, (∀ w, w < n1 → s'.blk w = (s.part gm).blk w ∧ s'.cap w = (s.part gm).cap w) → concL s l = concL s' l') : Tell P gm n1 H Hs Hs1 y x where
  at_ := hg
  lt := hlt
  big := by rw [hb]; exact fun e => by cases e
  into s o A hA h := by
    rw [hb] at hA
    injection hA with hA
    subst hA
    exact ⟨_, hs, blkR_cells hbl hsl (.inr (by simp only [Sg.part, hg])) (hin s) h⟩
  back s s' o B hB hag h A hA := by
    rw [h1] at hB
    injection hB with hB
    subst hB
    rw [hb] at hA
    injection hA with hA
    subst hA
    exact blkR_cells h1l hbl (.inr (by rw [(hag y hlt.1).2]; simp only [Sg.part, hg])) (hback s s' hag) h
  still := by rw [h1]; exact fun e => by cases e
/-- A map. -/
theorem tell_map {gm : Nat → Option Nat} {n1 : Nat} {H Hs Hs1 : Heap} {y x cl : Nat} {es es' : List (AV × AV × Nat)}
    (hg : gm y = some x) (hlt : y < n1 ∧ x < LIM) (hb : Q8.get H x = some (.map es cl)) (hs : Q8.get Hs y = some (.map es' cl)) (h1 : Q8.get Hs1 y = some (.map es' cl))
    (hin : ∀ s fs, All2 (MapR s) es fs → All2 (MapR (s.part gm)) es' fs) (hback : ∀ s s' : Sg, (∀ w, w < n1 → s'.blk w = (s.part gm).blk w ∧ s'.cap w = (s.part gm).cap w) → ∀ fs, All2 (MapR s') es' fs → All2 (MapR s) es fs) : Tell P gm n1 H Hs Hs1 y x where
  at_ := hg
  lt := hlt
  big := by rw [hb]; exact fun e => by cases e
  into s o A hA h := by
    rw [hb] at hA
    injection hA with hA
    subst hA
    refine ⟨_, hs, ?_⟩
    cases o with
    | map a cl' => exact ⟨h.1, hin s _ h.2⟩
    | _ => exact h.elim
  back s s' o B hB hag h A hA := by
    rw [h1] at hB
    injection hB with hB
    subst hB
    rw [hb] at hA
    injection hA with hA
    subst hA
    cases o with
    | map a cl' => exact ⟨h.1, hback s s' hag _ h.2⟩
    | _ => exact h.elim
  still := by rw [h1]; exact fun e => by cases e
end
end Go.Sy
namespace Go.Sy
open Go Go.RowKit
/-- A block of a small heap. -/
inductive SB | row (t : TypeId) (l : List AV) (ex mk : Bool) | map (es : List (AV × AV × Nat)) (cl : Nat)
noncomputable def putB {β : Type} (bs : List (Nat × SB)) : Heap → (Heap → β) → β :=
  List.rec (motive := fun _ => Heap → (Heap → β) → β) (fun H k => k H)
    (fun g _ ih H k => match g.2 with
      | .row t l ex mk => putCells l .e 0 fun c => frc (len l) fun m => Q8.set (some (.row t (fun _ => none) m c ex mk)) H g.1 fun H => ih H k
      | .map es cl => Q8.set (some (.map es cl)) H g.1 fun H => ih H k) bs
noncomputable def eqB (a b : Bool) : Bool := match a with | true => b | false => (match b with | true => false | false => true)
noncomputable def eqEs (es fs : List (AV × AV × Nat)) : Bool :=
  List.rec (motive := fun _ => List (AV × AV × Nat) → Bool) (fun fs => match fs with | [] => true | _ => false)
    (fun e _ ih fs => match fs with | [] => false | f :: r => (match eq1 e.1 f.1, eq1 e.2.1 f.2.1, Nat.beq e.2.2 f.2.2 with | true, true, true => ih r | _, _, _ => false)) es fs
noncomputable def sameB (g : SB) (b : Option Blk) : Prop :=
  match g with
  | .row t l ex mk => (match b with
    | some (.row t' z m c ex' mk') => (match Nat.beq m (len l), cellsAt z m c m 0, eqB ex' ex, eqB mk' mk with
        | true, some l', true, true => (match eq1s l' l with | true => t' = t | false => False)
        | _, _, _, _ => False)
    | _ => False)
  | .map es cl => (match b with
    | some (.map es' cl') => (match eqEs es' es, Nat.beq cl' cl with | true, true => True | _, _ => False)
    | _ => False)
noncomputable def sameBs (H : Heap) (bs : List (Nat × SB)) : Prop := List.rec True (fun g _ ih => sameB g.2 (Q8.get H g.1) ∧ ih) bs
noncomputable def runB (P : Program) (O : Orc) (fuel : Nat) (f : FuncId) (args : List AV) (res : AV) (n0 : Nat) (bs : List (Nat × SB)) : Prop :=
  putB bs Q8.e fun H => match (ev P O fuel).ef f args n0 H with
    | .ok v n' H' => (match Nat.ble n' 65536 with | true => v = res ∧ sameBs H' bs | false => False)
    | .er _ => False
noncomputable def SB.blk : SB → Blk
  | .row t l ex mk => .row t (fun _ => none) l.length (T.e.puts l 0) ex mk
  | .map es cl => .map es cl
noncomputable def hB : List (Nat × SB) → Heap → Heap
  | [], H => H
  | g :: bs, H => hB bs (Q8.upd H g.1 (some g.2.blk))
theorem putB_k {β : Type} (bs : List (Nat × SB)) : ∀ (H : Heap) (k : Heap → β), putB bs H k = k (hB bs H) := by
  induction bs with
  | nil => intro H k; rfl
  | cons g bs ih =>
    intro H k
    obtain ⟨x, b⟩ := g
    cases b with
    | row t l ex mk =>
      show putCells l .e 0 (fun c => frc (len l) fun m => Q8.set (some (.row t (fun _ => none) m c ex mk)) H x fun H => putB bs H k) = _
      rw [putCells_k, frc_eq, Q8.set_k, ih, len_eq]
      rfl
    | map es cl =>
      show Q8.set (some (.map es cl)) H x (fun H => putB bs H k) = _
      rw [Q8.set_k, ih]
      rfl
theorem get_hB : ∀ (bs : List (Nat × SB)) (H : Heap) (x : Nat), (∀ g ∈ bs, g.1 < LIM) → (bs.map Prod.fst).Nodup → x < LIM →
    (∀ g ∈ bs, g.1 = x → Q8.get (hB bs H) x = some g.2.blk) ∧ ((∀ g ∈ bs, g.1 ≠ x) → Q8.get (hB bs H) x = Q8.get H x)
  | [], H, x, _, _, _ => ⟨(fun g hg => by cases hg), fun _ => rfl⟩
  | g :: bs, H, x, hl, hn, hx => by
    have hl1 := hl g List.mem_cons_self
    rw [List.map_cons, List.nodup_cons] at hn
    have ih := get_hB bs (Q8.upd H g.1 (some g.2.blk)) x (fun g' hg => hl g' (List.mem_cons_of_mem _ hg)) hn.2 hx
    refine ⟨fun g' hg' he => ?_, fun hne => ?_⟩
    · rcases List.mem_cons.1 hg' with rfl | hg'
      · have := ih.2 (fun q hq e => hn.1 (List.mem_map.2 ⟨q, hq, by rw [e, he]⟩))
        show Q8.get (hB bs (Q8.upd H g'.1 (some g'.2.blk))) x = _
        rw [this, Q8.get_upd _ _ _ _ hl1 hx, if_pos he]
      · exact ih.1 g' hg' he
    · have := ih.2 (fun q hq => hne q (List.mem_cons_of_mem _ hq))
      show Q8.get (hB bs (Q8.upd H g.1 (some g.2.blk))) x = _
      rw [this, Q8.get_upd _ _ _ _ hl1 hx, if_neg (hne g List.mem_cons_self)]
theorem sameBs_at {H : Heap} : ∀ {bs : List (Nat × SB)}, sameBs H bs → ∀ g ∈ bs, sameB g.2 (Q8.get H g.1)
  | [], _, g, hg => by cases hg
  | g' :: bs, h, g, hg => by
    have h : sameB g'.2 (Q8.get H g'.1) ∧ sameBs H bs := h
    rcases List.mem_cons.1 hg with rfl | hg
    · exact h.1
    · exact sameBs_at h.2 g hg
theorem eqB_eq {a b : Bool} (h : eqB a b = true) : a = b := by cases a <;> cases b <;> first | rfl | cases h
theorem eqEs_eq : ∀ {es fs : List (AV × AV × Nat)}, eqEs es fs = true → es = fs
  | [], [], _ => rfl
  | [], _ :: _, h => by cases h
  | e :: es, [], h => by cases h
  | e :: es, f :: fs, h => by
    have h : (match eq1 e.1 f.1, eq1 e.2.1 f.2.1, Nat.beq e.2.2 f.2.2 with | true, true, true => eqEs es fs | _, _, _ => false) = true := h
    split at h
    · rename_i h1 h2 h3
      have e1 : e = f := by
        have a1 := eq1s_eq (l := [e.1]) (m := [f.1]) (by show (match eq1 e.1 f.1 with | true => eq1s [] [] | false => false) = true; rw [h1]; rfl)
        have a2 := eq1s_eq (l := [e.2.1]) (m := [f.2.1]) (by show (match eq1 e.2.1 f.2.1 with | true => eq1s [] [] | false => false) = true; rw [h2]; rfl)
        injection a1 with a1
        injection a2 with a2
        exact Prod.ext a1 (Prod.ext a2 (Nat.eq_of_beq_eq_true h3))
      rw [e1, eqEs_eq h]
    · cases h
/-- The cells of a small heap's row. -/
theorem sb_cells (l : List AV) : cellsAt (fun _ => none) l.length (T.e.puts l 0) l.length 0 = some l := by
  have key : ∀ (k o : Nat), o + k = l.length → cellsAt (fun _ => none) l.length (T.e.puts l 0) k o = some (l.drop o) := by
    intro k
    induction k with
    | zero => intro o ho; rw [List.drop_of_length_le (by omega)]; rfl
    | succ k ih =>
      intro o ho
      rw [cellsAt_succ, cellAt_eq, if_pos (by omega), T.get_puts, if_pos (by omega), Nat.sub_zero, List.getElem?_eq_getElem (by omega)]
      dsimp only
      rw [ih (o + 1) (by omega), List.drop_eq_getElem_cons (by omega : o < l.length)]
  exact key l.length 0 (by omega)
end Go.Sy
namespace Go.Sy
open Go Go.RowKit
def AV.ren (gm : Nat → Option Nat) : AV → AV
  | .p x o => .p ((gm x).getD 0) o
  | .sl x o n c => .sl ((gm x).getD 0) o n c
  | .m x => .m ((gm x).getD 0)
  | a => a
def AV.flat (n0 : Nat) (gm : Nat → Option Nat) : AV → Prop
  | .b _ => True | .i _ _ => True | .s _ => True | .p0 => True | .sl0 => True | .m0 => True
  | .p x _ => x < n0 ∧ (gm x).isSome
  | .sl x _ _ _ => x < n0 ∧ (gm x).isSome
  | .m x => x < n0 ∧ (gm x).isSome
  | _ => False
def Agree (n0 : Nat) (s' s : Sg) : Prop := ∀ z, z < n0 → s'.blk z = s.blk z ∧ s'.cap z = s.cap z
theorem ren_conc {n0 : Nat} {gm : Nat → Option Nat} {A : AV} (h : A.flat n0 gm) (s : Sg) : (A.ren gm).conc s = A.conc (s.part gm) := by
  cases A with
  | sl x o n c =>
    obtain ⟨_, h2⟩ := h
    obtain ⟨y, hy⟩ := Option.isSome_iff_exists.1 h2
    cases c <;> simp [AV.ren, AV.conc, Sg.part, hy, Cap.fits, Cap.val]
  | p x o =>
    obtain ⟨_, h2⟩ := h
    obtain ⟨y, hy⟩ := Option.isSome_iff_exists.1 h2
    simp [AV.ren, AV.conc, Sg.part, hy]
  | m x =>
    obtain ⟨_, h2⟩ := h
    obtain ⟨y, hy⟩ := Option.isSome_iff_exists.1 h2
    simp [AV.ren, AV.conc, Sg.part, hy]
  | b _ => rfl
  | i _ _ => rfl
  | s _ => rfl
  | p0 => rfl
  | sl0 => rfl
  | m0 => rfl
  | _ => exact h.elim
theorem agree_conc {n0 : Nat} {gm : Nat → Option Nat} {A : AV} (h : A.flat n0 gm) {s s' : Sg} (ha : Agree n0 s' s) : A.conc s' = A.conc s := by
  cases A with
  | sl x o n c =>
    obtain ⟨h1, _⟩ := h
    cases c <;> simp [AV.conc, (ha _ h1).1, (ha _ h1).2, Cap.fits, Cap.val]
  | p x o => simp [AV.conc, (ha _ h.1).1]
  | m x => simp [AV.conc, (ha _ h.1).1]
  | b _ => rfl
  | i _ _ => rfl
  | s _ => rfl
  | p0 => rfl
  | sl0 => rfl
  | m0 => rfl
  | _ => exact h.elim
theorem ren_concL {n0 : Nat} {gm : Nat → Option Nat} (s : Sg) : ∀ {l : List AV}, (∀ A ∈ l, A.flat n0 gm) → concL s (l.map (AV.ren gm)) = concL (s.part gm) l
  | [], _ => rfl
  | a :: l, h => by
    simp only [List.map_cons, concL]
    rw [ren_conc (h a List.mem_cons_self) s, ren_concL s (fun A hA => h A (List.mem_cons_of_mem _ hA))]
theorem agree_concL {n0 : Nat} {gm : Nat → Option Nat} {s s' : Sg} (ha : Agree n0 s' s) : ∀ {l : List AV}, (∀ A ∈ l, A.flat n0 gm) → concL s' l = concL s l
  | [], _ => rfl
  | a :: l, h => by
    simp only [concL]
    rw [agree_conc (h a List.mem_cons_self) ha, agree_concL ha (fun A hA => h A (List.mem_cons_of_mem _ hA))]
def SB.flat (n0 : Nat) (gm : Nat → Option Nat) : SB → Prop
  | .row _ l _ _ => ∀ A ∈ l, A.flat n0 gm
  | .map es _ => ∀ e ∈ es, e.1.flat n0 gm ∧ e.2.1.flat n0 gm
/-- The block is there in the great heap. -/
def SB.there (gm : Nat → Option Nat) (H : Heap) (x : Nat) : SB → Prop
  | .row t l ex mk => ∃ z c, Q8.get H x = some (.row t z l.length c ex mk) ∧ cellsAt z l.length c l.length 0 = some (l.map (AV.ren gm))
  | .map es cl => Q8.get H x = some (.map (es.map fun e => (e.1.ren gm, e.2.1.ren gm, e.2.2)) cl)
section
variable {P : Program}
theorem tell_run {O : Orc} (hm : P.follows .mixedOrders = true) (hO : OrcOk P O) {fuel : Nat} {f : FuncId} {args args' : List AV} {n n0 : Nat} {H : Heap} {v : AV} {V : Value} {gm : Nat → Option Nat} {bs : List (Nat × SB)}
    (hrun : runB P O fuel f args' v n0 bs) (hn0 : n0 ≤ LIM) (hglob : ∀ g, g < 64 → gm g = some g) (hgm : ∀ y x, gm y = some x → y < n0) (hinj : ∀ y y' x, gm y = some x → gm y' = some x → y = y')
    (hnd : (bs.map Prod.fst).Nodup) (hfl : ∀ p ∈ bs, p.2.flat n0 gm) (hth : ∀ p ∈ bs, ∃ x, gm p.1 = some x ∧ x < LIM ∧ p.2.there gm H x)
    (hA : ∀ s, concL s args = concL (s.part gm) args') (hv : ∀ s, v.conc s = some V) : FnGood P f args n H v n H := by
  unfold runB at hrun
  rw [putB_k] at hrun
  have hlt : ∀ p ∈ bs, p.1 < n0 := fun p hp => by
    obtain ⟨x, hx, _⟩ := hth p hp
    exact hgm _ _ hx
  have hget := fun y hy => get_hB bs Q8.e y (fun p hp => Nat.lt_of_lt_of_le (hlt p hp) hn0) hnd hy
  split at hrun
  · rename_i v' n2 Hs1 hev
    split at hrun
    · rename_i h2
      obtain ⟨h1, hsame⟩ := hrun
      subst h1
      refine fnGood_tell hm hO (gm := gm) (ys := bs.map fun p => (p.1, (gm p.1).getD 0)) hglob hgm hn0 hinj (fun q hq => ?_) (fun y hy hne => ?_) hA hev (Nat.le_of_ble_eq_true h2) hv
      · obtain ⟨p, hp, rfl⟩ := List.mem_map.1 hq
        obtain ⟨x, hx, hxl, hbig⟩ := hth p hp
        have hs := (hget p.1 (Nat.lt_of_lt_of_le (hlt p hp) hn0)).1 p hp rfl
        have hsm := sameBs_at hsame p hp
        have hf := hfl p hp
        have hp1 := hlt p hp
        dsimp only
        rw [hx, Option.getD_some]
        obtain ⟨y, b⟩ := p
        cases b with
        | row t l ex mk =>
          obtain ⟨z, c, hb1, hb2⟩ := hbig
          unfold sameB at hsm
          dsimp only at hsm
          split at hsm
          · rename_i t' z1 m1 c1 ex1 mk1 hq1
            split at hsm
            · rename_i l' k1 k2 k3 k4
              split at hsm
              · rename_i k5
                have k1 := Nat.eq_of_beq_eq_true k1
                rw [len_eq] at k1
                have k3 := eqB_eq k3
                have k4 := eqB_eq k4
                have k5 := eq1s_eq k5
                subst k1 k3 k4 k5 hsm
                exact tell_row hx ⟨hp1, hxl⟩ hb1 hb2 hs (sb_cells l') hq1 k2 (fun s => (ren_concL s hf).symm) (fun s s' hag => (ren_concL s hf).trans (agree_concL hag hf).symm)
              · cases hsm
            · cases hsm
          · cases hsm
        | map es cl =>
          unfold sameB at hsm
          dsimp only at hsm
          split at hsm
          · rename_i es1 cl1 hq1
            split at hsm
            · rename_i k1 k2
              have k1 := eqEs_eq k1
              have k2 := Nat.eq_of_beq_eq_true k2
              subst k1 k2
              have tr : ∀ (es : List (AV × AV × Nat)), (∀ e ∈ es, e.1.flat n0 gm ∧ e.2.1.flat n0 gm) → ∀ (s : Sg) (fs : List MapEntry), All2 (MapR s) (es.map fun e => (e.1.ren gm, e.2.1.ren gm, e.2.2)) fs ↔ All2 (MapR (s.part gm)) es fs := by
                intro es
                induction es with
                | nil => intro _ s fs; cases fs <;> exact Iff.rfl
                | cons e es ih =>
                  intro he s fs
                  cases fs with
                  | nil => exact Iff.rfl
                  | cons f fs =>
                    obtain ⟨f1, f2⟩ := he e List.mem_cons_self
                    show (MapR s (e.1.ren gm, e.2.1.ren gm, e.2.2) f ∧ All2 (MapR s) (es.map _) fs) ↔ (MapR (s.part gm) e f ∧ All2 (MapR (s.part gm)) es fs)
                    rw [ih (fun e' h' => he e' (List.mem_cons_of_mem _ h')) s fs]
                    simp only [MapR, ren_conc f1 s, ren_conc f2 s]
              have ag : ∀ (es : List (AV × AV × Nat)), (∀ e ∈ es, e.1.flat n0 gm ∧ e.2.1.flat n0 gm) → ∀ (s s' : Sg), Agree n0 s' s → ∀ (fs : List MapEntry), All2 (MapR s') es fs → All2 (MapR s) es fs := by
                intro es
                induction es with
                | nil => intro _ s s' _ fs; cases fs <;> exact id
                | cons e es ih =>
                  intro he s s' ha fs h
                  cases fs with
                  | nil => exact h
                  | cons f fs =>
                    obtain ⟨f1, f2⟩ := he e List.mem_cons_self
                    obtain ⟨⟨m1, m2, m3⟩, h2⟩ := h
                    exact ⟨⟨by rw [← agree_conc f1 ha]; exact m1, by rw [← agree_conc f2 ha]; exact m2, m3⟩, ih (fun e' h' => he e' (List.mem_cons_of_mem _ h')) s s' ha fs h2⟩
              exact tell_map hx ⟨hp1, hxl⟩ hbig hs hq1 (fun s fs h => (tr _ hf s fs).1 h) (fun s s' hag fs h => (tr _ hf s fs).2 (ag _ hf _ _ hag fs h))
            · cases hsm
          · cases hsm
      · by_cases hin : ∃ p ∈ bs, p.1 = y
        · obtain ⟨p, hp, rfl⟩ := hin
          exact ⟨_, List.mem_map.2 ⟨p, hp, rfl⟩, rfl⟩
        · exfalso
          apply hne
          rw [(hget y hy).2 (fun p hp e => hin ⟨p, hp, e⟩), Q8.get_e]
    · cases hrun
  · cases hrun
end
end Go.Sy
namespace Go.Sy
open Go Go.RowKit
noncomputable def rowIs (l : List AV) (ex mk : Bool) (b : Option Blk) : Bool :=
  match b with
  | some (.row _ z m c ex' mk') => (match Nat.beq m (len l), cellsAt z m c m 0, eqB ex' ex, eqB mk' mk with
      | true, some l', true, true => eq1s l' l
      | _, _, _, _ => false)
  | _ => false
noncomputable def mapIs (es : List (AV × AV × Nat)) (cl : Nat) (b : Option Blk) : Bool :=
  match b with
  | some (.map es' cl') => (match eqEs es' es with | true => Nat.beq cl' cl | false => false)
  | _ => false
theorem rowIs_at {l : List AV} {ex mk : Bool} {H : Heap} {x : Nat} (h : rowIs l ex mk (Q8.get H x) = true) : ∃ t z c, Q8.get H x = some (.row t z l.length c ex mk) ∧ cellsAt z l.length c l.length 0 = some l := by
  unfold rowIs at h
  split at h
  · rename_i t z m c ex' mk' hq
    split at h
    · rename_i l' k1 k2 k3 k4
      have k1 := Nat.eq_of_beq_eq_true k1
      rw [len_eq] at k1
      have k3 := eqB_eq k3
      have k4 := eqB_eq k4
      have k5 := eq1s_eq h
      subst k1 k3 k4 k5
      exact ⟨t, z, c, hq, k2⟩
    · cases h
  · cases h
theorem mapIs_at {es : List (AV × AV × Nat)} {cl : Nat} {H : Heap} {x : Nat} (h : mapIs es cl (Q8.get H x) = true) : Q8.get H x = some (.map es cl) := by
  unfold mapIs at h
  split at h
  · rename_i es' cl' hq
    split at h
    · rename_i k1
      have k1 := eqEs_eq k1
      have k2 := Nat.eq_of_beq_eq_true h
      subst k1 k2
      exact hq
    · cases h
  · cases h
/-- All of some tests. -/
noncomputable def allB (l : List Bool) : Bool := List.rec true (fun a _ ih => match a with | true => ih | false => false) l
theorem allB_cons {a : Bool} {l : List Bool} (h : allB (a :: l) = true) : a = true ∧ allB l = true := by
  cases a with
  | false => exact absurd (show (false : Bool) = true from h) (by decide)
  | true => exact ⟨rfl, h⟩
noncomputable def inR (x : Nat) : Bool := match Nat.ble 64 x with | true => Nat.blt x 65536 | false => false
theorem inR_at {x : Nat} (h : inR x = true) : 64 ≤ x ∧ x < LIM := by
  unfold inR at h
  split at h
  · rename_i h1
    exact ⟨Nat.le_of_ble_eq_true h1, Nat.le_of_ble_eq_true h⟩
  · cases h
noncomputable def neB (x y : Nat) : Bool := match Nat.beq x y with | true => false | false => true
theorem neB_at {x y : Nat} (h : neB x y = true) : x ≠ y := by
  unfold neB at h
  split at h
  · cases h
  · rename_i h1
    intro e
    subst e
    simp at h1
/-- Three symbols told of. -/
def gm3 (x y b : Nat) (z : Nat) : Option Nat := if z < 64 then some z else if z = 64 then some x else if z = 65 then some y else if z = 66 then some b else none
theorem gm3_inj {x y b : Nat} (hx : 64 ≤ x) (hy : 64 ≤ y) (hb : 64 ≤ b) (h1 : x ≠ y) (h2 : x ≠ b) (h3 : y ≠ b) (z z' w : Nat) (h : gm3 x y b z = some w) (h' : gm3 x y b z' = some w) : z = z' := by
  unfold gm3 at h h'
  split at h <;> split at h' <;> (try split at h) <;> (try split at h') <;> (try split at h) <;> (try split at h') <;> (try split at h) <;> (try split at h') <;> simp_all <;> omega
theorem gm3_lt {x y b n0 : Nat} (hn : 67 ≤ n0) (z w : Nat) (h : gm3 x y b z = some w) : z < n0 := by
  unfold gm3 at h
  split at h
  · omega
  · split at h
    · omega
    · split at h
      · omega
      · split at h
        · omega
        · cases h
end Go.Sy

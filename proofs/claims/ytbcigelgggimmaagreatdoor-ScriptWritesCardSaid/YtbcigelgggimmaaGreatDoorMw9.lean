/- RfP, WrP, RfA, RfB -/
import Derived.Test.YtbcigelgggimmaaGreatDoorMw8
import Derived.Deep.Cut
namespace Go.Proofs.YtbcigelgggimmaaGreatDoor
open Go Go.RowKit
def atP (b : List UInt8) (i : Nat) : UInt8 := b.getD i 0
def partP (b : List UInt8) (i n : Nat) : List UInt8 := (List.range n).map fun k => atP b (i + k)
def numP (b : List UInt8) (i n : Nat) : Nat := numBE (partP b i n)
theorem partP_length (b : List UInt8) (i n : Nat) : (partP b i n).length = n := by simp [partP]
theorem partP_succ (b : List UInt8) (i n : Nat) : partP b i (n + 1) = partP b i n ++ [atP b (i + n)] := by simp [partP, List.range_succ]
theorem numP_succ (b : List UInt8) (i n : Nat) : numP b i (n + 1) = numP b i n * 256 + (atP b (i + n)).toNat := by unfold numP; rw [partP_succ, numBE_snoc]
theorem takeP_drop (b : List UInt8) (i n : Nat) : takeP n (b.drop i) = partP b i n := by
  apply List.ext_getElem?
  intro k
  unfold takeP
  by_cases h : k < n
  · have hr : (partP b i n)[k]? = some (atP b (i + k)) := by simp [partP, h]
    rw [hr, List.getElem?_append]
    by_cases hk : k < (b.drop i).length
    · rw [if_pos (by simp at hk ⊢; omega), List.getElem?_take_of_lt h, List.getElem?_drop]
      rw [List.length_drop] at hk
      unfold atP
      rw [List.getD_eq_getElem?_getD, List.getElem?_eq_getElem (by omega)]; rfl
    · rw [if_neg (by simp at hk ⊢; omega), List.getElem?_replicate]
      rw [List.length_drop] at hk
      unfold atP
      rw [if_pos (by simp; omega), List.getD_eq_getElem?_getD, List.getElem?_eq_none (by omega)]; rfl
  · rw [List.getElem?_eq_none (by simp; omega), List.getElem?_eq_none (by rw [partP_length]; omega)]
theorem take0 (b : List UInt8) (n : Nat) : takeP n b = partP b 0 n := by have := takeP_drop b 0 n; rwa [List.drop_zero] at this
theorem num1 (b : List UInt8) (i : Nat) : numBE (partP b i 1) = (atP b i).toNat := by simp [partP, numBE]
def keyedP (k : Int) : Bool := decide (k = 1 ∨ k = 2 ∨ k = 3 ∨ k = 4 ∨ k = 5 ∨ k = 6)
def valuedP (k : Int) : Bool := decide (k = 1 ∨ k = 2)
def timedP (k : Int) : Bool := decide (k = 2 ∨ k = 5)
def aimedP (k : Int) : Bool := decide (k = 12 ∨ k = 13 ∨ k = 14)
def fHead (b : List UInt8) : OpV × Nat := if (atP b 0).toNat / 16 = 15 then ({ op0 (atP b 0).toNat with ticks := 15 + ((atP b 1).toNat : Int) }, 2) else (op0 (atP b 0).toNat, 1)
def fKey (b : List UInt8) (q : OpV × Nat) : OpV × Nat := if keyedP q.1.kind then ({ q.1 with key := ⟨(partP b (q.2 + 1) ((atP b q.2).toNat % 32)).toArray⟩ }, q.2 + 1 + (atP b q.2).toNat % 32) else q
def fVal (b : List UInt8) (q : OpV × Nat) : OpV × Nat := if valuedP q.1.kind then ({ q.1 with val := partP b (q.2 + 1) (atP b q.2).toNat }, q.2 + 1 + (atP b q.2).toNat) else q
def fTtl (b : List UInt8) (q : OpV × Nat) : OpV × Nat := if timedP q.1.kind then ({ q.1 with ttl := numP b q.2 2 }, q.2 + 2) else q
def fBud (b : List UInt8) (q : OpV × Nat) : OpV × Nat := if q.1.kind = 8 then ({ q.1 with count := numP b q.2 2, bytes := numP b (q.2 + 2) 3 }, q.2 + 5) else q
def fAim (b : List UInt8) (q : OpV × Nat) : OpV × Nat := if aimedP q.1.kind then ({ q.1 with cursor := (atP b q.2).toNat }, q.2 + 1) else q
def fBirth (b : List UInt8) (q : OpV × Nat) : OpV × Nat := if q.1.kind = 13 then ({ q.1 with birth := numP b q.2 2 }, q.2 + 2) else q
def firstP (b : List UInt8) : OpV × Nat := fBirth b (fAim b (fBud b (fTtl b (fVal b (fKey b (fHead b))))))
theorem kind_of (x : Nat) : kindL.getD (x % 16) 0 ∈ kindL := by
  have h : x % 16 < 16 := Nat.mod_lt _ (by decide)
  have : ∀ y, y < 16 → kindL.getD y 0 ∈ kindL := by decide
  exact this _ h
/-- How a part is read from an index on. -/
def rdAt (b : List UInt8) (p : Part) (q : OpV × Nat) : OpV × Nat := match p with
  | .key => ({ q.1 with key := ⟨(partP b (q.2 + 1) ((atP b q.2).toNat % 32)).toArray⟩ }, q.2 + 1 + (atP b q.2).toNat % 32)
  | .value => ({ q.1 with val := partP b (q.2 + 1) (atP b q.2).toNat }, q.2 + 1 + (atP b q.2).toNat)
  | .ttl => ({ q.1 with ttl := numP b q.2 2 }, q.2 + 2)
  | .budgets => ({ q.1 with count := numP b q.2 2, bytes := numP b (q.2 + 2) 3 }, q.2 + 5)
  | .aim => ({ q.1 with cursor := (atP b q.2).toNat }, q.2 + 1)
  | .birth => ({ q.1 with birth := numP b q.2 2 }, q.2 + 2)
theorem rdAt_eq (b : List UInt8) (p : Part) (q : OpV × Nat) : rdPart p q.1 (b.drop q.2) = ((rdAt b p q).1, b.drop (rdAt b p q).2) := by
  cases p <;> simp only [rdPart, rdAt, takeP_drop, List.drop_drop, num1, numP]
def rdsAt (b : List UInt8) : List Part → OpV × Nat → OpV × Nat
  | [], q => q
  | p :: ps, q => rdsAt b ps (rdAt b p q)
theorem rdsAt_eq (b : List UInt8) : ∀ (ps : List Part) (q : OpV × Nat), rdParts ps q.1 (b.drop q.2) = ((rdsAt b ps q).1, b.drop (rdsAt b ps q).2)
  | [], q => rfl
  | p :: ps, q => by rw [rdParts, rdAt_eq]; exact rdsAt_eq b ps (rdAt b p q)
theorem fHead_eq (b : List UInt8) : rdHead b = ((fHead b).1, b.drop (fHead b).2) := by
  unfold rdHead fHead
  rw [take0, num1, takeP_drop, num1]
  split <;> simp
theorem fHead_kind (b : List UInt8) : (fHead b).1.kind ∈ kindL := by
  unfold fHead
  split <;> exact kind_of _
theorem firstP_rds (b : List UInt8) (q : OpV × Nat) (h : q.1.kind ∈ kindL) : fBirth b (fAim b (fBud b (fTtl b (fVal b (fKey b q))))) = rdsAt b (partsOf q.1.kind) q := by
  obtain ⟨o, i⟩ := q
  obtain ⟨k, t, key, val, ttl, c, y, cu, bi⟩ := o
  simp only [kindL, List.mem_cons, List.not_mem_nil, or_false] at h
  rcases h with rfl | rfl | rfl | rfl | rfl | rfl | rfl | rfl | rfl | rfl | rfl | rfl | rfl | rfl | rfl | rfl <;>
    simp [fBirth, fAim, fBud, fTtl, fVal, fKey, keyedP, valuedP, timedP, aimedP, partsOf, rdsAt, rdAt]
/-- The reference reads as the program does. -/
theorem firstP_eq (b : List UInt8) : rdOp b = ((firstP b).1, b.drop (firstP b).2) := by
  unfold rdOp firstP
  rw [firstP_rds b _ (fHead_kind b), fHead_eq]
  exact rdsAt_eq b _ (fHead b)
theorem firstP_pos (b : List UInt8) : 0 < (firstP b).2 := by
  unfold firstP
  rw [firstP_rds b _ (fHead_kind b)]
  have h0 : 0 < (fHead b).2 := by unfold fHead; split <;> simp
  have h1 : ∀ (ps : List Part) (q : OpV × Nat), q.2 ≤ (rdsAt b ps q).2 := by
    intro ps
    induction ps with
    | nil => intro q; exact Nat.le_refl _
    | cons p ps ih => intro q; refine Nat.le_trans ?_ (ih _); cases p <;> simp [rdAt] <;> omega
  exact Nat.lt_of_lt_of_le h0 (h1 _ _)
theorem drop_min (b : List UInt8) (n : Nat) : b.drop (min n b.length) = b.drop n := by
  by_cases h : n ≤ b.length
  · rw [Nat.min_eq_left h]
  · rw [Nat.min_eq_right (by omega), List.drop_of_length_le (by omega), List.drop_of_length_le (by omega)]
end Go.Proofs.YtbcigelgggimmaaGreatDoor
namespace Go.Proofs.YtbcigelgggimmaaGreatDoor
open Go Go.RowKit
/-- No budget below 0. -/
def max0 (o : OpV) : OpV := { o with count := max 0 o.count, bytes := max 0 o.bytes }
def badP (o : OpV) : Prop := codeI o.kind < 0 ∨ 270 < o.ticks ∨ 31 < o.key.size ∨ 255 < o.val.length
instance (o : OpV) : Decidable (badP o) := inferInstanceAs (Decidable (_ ∨ _))
/-- The bytes of an operation, by the reference. -/
def bytesP (o : OpV) : List UInt8 := if badP o then [] else wrRaw (codeI o.kind) (max0 o)
/-- An operation can be written, by the reference. -/
def validP (o : OpV) : Bool := decide ((bytesP o).length ≠ 0) && (decide ((firstP (bytesP o)).2 = (bytesP o).length) && decide (eqO (firstP (bytesP o)).1 o))
theorem rdPart_pos (p : Part) (o : OpV) (rs : List UInt8) (h : 0 ≤ o.count ∧ 0 ≤ o.bytes) : 0 ≤ (rdPart p o rs).1.count ∧ 0 ≤ (rdPart p o rs).1.bytes := by
  cases p <;> simp only [rdPart] <;> first | exact h | exact ⟨Int.natCast_nonneg _, Int.natCast_nonneg _⟩
theorem rdParts_pos : ∀ (ps : List Part) (o : OpV) (rs : List UInt8), (0 ≤ o.count ∧ 0 ≤ o.bytes) → 0 ≤ (rdParts ps o rs).1.count ∧ 0 ≤ (rdParts ps o rs).1.bytes
  | [], _, _, h => h
  | p :: ps, o, rs, h => rdParts_pos ps _ _ (rdPart_pos p o rs h)
theorem rdHead_pos (rs : List UInt8) : 0 ≤ (rdHead rs).1.count ∧ 0 ≤ (rdHead rs).1.bytes := by
  unfold rdHead
  split <;> exact ⟨Int.le_refl _, Int.le_refl _⟩
theorem rdOp_pos (rs : List UInt8) : 0 ≤ (rdOp rs).1.count ∧ 0 ≤ (rdOp rs).1.bytes := rdParts_pos _ _ _ (rdHead_pos rs)
theorem max0_id {o : OpV} (h : 0 ≤ o.count ∧ 0 ≤ o.bytes) : max0 o = o := by
  obtain ⟨k, t, key, val, ttl, c, y, cu, bi⟩ := o
  simp only [max0, OpV.mk.injEq, true_and, and_true]
  exact ⟨Int.max_eq_right h.1, Int.max_eq_right h.2⟩
theorem rdPart_kind (p : Part) (o : OpV) (rs : List UInt8) : (rdPart p o rs).1.kind = o.kind := by cases p <;> rfl
theorem rdParts_kind : ∀ (ps : List Part) (o : OpV) (rs : List UInt8), (rdParts ps o rs).1.kind = o.kind
  | [], _, _ => rfl
  | p :: ps, o, rs => (rdParts_kind ps _ _).trans (rdPart_kind p o rs)
theorem codeI_lt (k : Int) : codeI k ≤ 13 := by
  unfold codeI Lib.idxOf kindL
  simp only [Lib.idxFrom]
  repeat' split
  all_goals omega
theorem byteI_nat (x : Int) (h : 0 ≤ x) (h2 : x < 256) : (byteI x).toNat = x.toNat := by have := byteI_toNat x; omega
theorem atP_drop (b : List UInt8) (i : Nat) (x : UInt8) (l : List UInt8) (h : b.drop i = x :: l) : atP b i = x := by
  unfold atP
  rw [List.getD_eq_getElem?_getD]
  have : b[i]? = some x := by
    have h2 := congrArg (fun l => l[0]?) h
    simp only [List.getElem?_drop, Nat.add_zero, List.getElem?_cons_zero] at h2
    exact h2
  rw [this]; rfl
/-- A part is as long as its bytes. -/
theorem rdAt_len (o : OpV) (hk : o.key.size ≤ 31) (hv : o.val.length ≤ 255) (b : List UInt8) (p : Part) (q : OpV × Nat) (rest : List UInt8) (h : b.drop q.2 = wrPart p o ++ rest) : (rdAt b p q).2 = q.2 + (wrPart p o).length := by
  cases p with
  | key =>
    have h1 := atP_drop b q.2 _ _ h
    have hs : o.key.data.toList.length = o.key.size := Array.length_toList
    simp only [rdAt, wrPart, h1, List.length_cons, hs, byteI_nat (o.key.size : Int) (by omega) (by omega)]
    omega
  | value =>
    have h1 := atP_drop b q.2 _ _ h
    simp only [rdAt, wrPart, h1, List.length_cons, byteI_nat (o.val.length : Int) (by omega) (by omega)]
    omega
  | ttl => rfl
  | budgets => rfl
  | aim => rfl
  | birth => rfl
theorem rdsAt_len (o : OpV) (hk : o.key.size ≤ 31) (hv : o.val.length ≤ 255) (b : List UInt8) : ∀ (ps : List Part) (q : OpV × Nat), b.drop q.2 = ps.flatMap (fun p => wrPart p o) → (rdsAt b ps q).2 = q.2 + (ps.flatMap (fun p => wrPart p o)).length
  | [], q, _ => rfl
  | p :: ps, q, h => by
    rw [List.flatMap_cons] at h ⊢
    have h1 := rdAt_len o hk hv b p q _ h
    rw [rdsAt, rdsAt_len o hk hv b ps (rdAt b p q) (by rw [h1, ← List.drop_drop, h, List.drop_left]), h1, List.length_append]
    omega
theorem first_len (o : OpV) (ht : 0 ≤ o.ticks) (hb : ¬ badP o) (he : eqO (rdOp (wrRaw (codeI o.kind) o)).1 o) : (firstP (wrRaw (codeI o.kind) o)).2 = (wrRaw (codeI o.kind) o).length := by
  have hc0 : 0 ≤ codeI o.kind := by unfold badP at hb; omega
  have hc1 := codeI_lt o.kind
  have hk : o.key.size ≤ 31 := by unfold badP at hb; omega
  have hv : o.val.length ≤ 255 := by unfold badP at hb; omega
  obtain ⟨raw, hraw⟩ : ∃ raw, wrRaw (codeI o.kind) o = raw := ⟨_, rfl⟩
  rw [hraw] at he ⊢
  have hkind : (fHead raw).1.kind = o.kind := by
    have h1 := he.1
    unfold rdOp at h1
    rw [rdParts_kind, fHead_eq] at h1
    exact h1
  unfold firstP
  rw [firstP_rds raw _ (fHead_kind raw), hkind]
  have hx : atP raw 0 = byteI (codeI o.kind + 16 * min o.ticks 15) := by rw [← hraw]; rfl
  have hn : (atP raw 0).toNat = (codeI o.kind + 16 * min o.ticks 15).toNat := by rw [hx]; exact byteI_nat _ (by omega) (by omega)
  by_cases h15 : 15 ≤ o.ticks
  · have hq : (fHead raw).2 = 2 := by unfold fHead; rw [if_pos (by rw [hn]; omega)]
    have hd : raw.drop (fHead raw).2 = (partsOf o.kind).flatMap (fun p => wrPart p o) := by rw [hq, ← hraw, wrRaw, if_pos h15]; rfl
    rw [rdsAt_len o hk hv raw _ _ hd, ← hd, List.length_drop, hq]
    have : 2 ≤ raw.length := by rw [← hraw, wrRaw, if_pos h15]; simp
    omega
  · have hq : (fHead raw).2 = 1 := by unfold fHead; rw [if_neg (by rw [hn]; omega)]
    have hd : raw.drop (fHead raw).2 = (partsOf o.kind).flatMap (fun p => wrPart p o) := by rw [hq, ← hraw, wrRaw, if_neg h15]; rfl
    rw [rdsAt_len o hk hv raw _ _ hd, ← hd, List.length_drop, hq]
    have : 1 ≤ raw.length := by rw [← hraw, wrRaw]; simp
    omega
theorem wrOp_bytes {o : OpV} {b : List UInt8} (h : wrOp o = some b) : bytesP o = b := by
  unfold wrOp at h
  split at h
  · cases h
  · rename_i hb
    split at h
    · rename_i he
      injection h with h
      have hp := rdOp_pos (wrRaw (codeI o.kind) o)
      rw [(eqO_iff _ _).1 he] at hp
      unfold bytesP
      rw [if_neg (show ¬ badP o from hb), max0_id hp, h]
    · cases h
/-- What the reference says of an operation is what the program says. -/
theorem validP_eq (o : OpV) (ht : 0 ≤ o.ticks) : validP o = (wrOp o).isSome := by
  cases hw : wrOp o with
  | some b =>
    have hbs := wrOp_bytes hw
    unfold wrOp at hw
    split at hw
    · cases hw
    · rename_i hb
      split at hw
      · rename_i he
        injection hw with hw
        unfold validP
        rw [hbs]
        have hl := first_len o ht hb he
        have he2 := he
        rw [firstP_eq] at he2
        rw [hw] at hl he2
        have h0 : b.length ≠ 0 := by rw [← hw, wrRaw]; simp
        rw [decide_eq_true h0, decide_eq_true hl, decide_eq_true he2]; rfl
      · cases hw
  | none =>
    cases hv : validP o with
    | false => rfl
    | true =>
      exfalso
      unfold validP at hv
      simp only [Bool.and_eq_true, decide_eq_true_eq] at hv
      obtain ⟨h0, h1, h2⟩ := hv
      unfold bytesP at h0 h2
      by_cases hb : badP o
      · rw [if_pos hb] at h0; exact h0 rfl
      · rw [if_neg hb] at h2
        have h3 : eqO (rdOp (wrRaw (codeI o.kind) (max0 o))).1 o := by rw [firstP_eq]; exact h2
        have hp := rdOp_pos (wrRaw (codeI o.kind) (max0 o))
        rw [(eqO_iff _ _).1 h3] at hp
        rw [max0_id hp] at h3
        unfold wrOp at hw
        have hb2 : ¬ (codeI o.kind < 0 ∨ 270 < o.ticks ∨ 31 < o.key.size ∨ 255 < o.val.length) := hb
        rw [if_neg hb2, if_pos h3] at hw
        cases hw
theorem bytesP_len (o : OpV) : (bytesP o).length ≤ 292 := by
  unfold bytesP
  split
  · simp
  · rename_i hb
    exact wrRaw_len (codeI o.kind) (max0 o) (by unfold badP at hb; show o.key.size ≤ 31; omega) (by unfold badP at hb; show o.val.length ≤ 255; omega)
/-- The bytes of operations, by the reference. -/
def wantP (os : List OpV) : List UInt8 := os.flatMap bytesP
theorem wrOps_want : ∀ os : List OpV, (∀ o ∈ os, 0 ≤ o.ticks) → wrOps os = if os.all validP then some (wantP os) else none
  | [], _ => rfl
  | o :: os, h => by
    have ht := h o (List.mem_cons_self ..)
    have ih := wrOps_want os (fun x hx => h x (List.mem_cons_of_mem _ hx))
    rw [wrOps, List.all_cons, validP_eq o ht]
    cases hw : wrOp o with
    | none => rfl
    | some b =>
      dsimp only
      rw [ih, Option.isSome_some, Bool.true_and, show wantP (o :: os) = b ++ wantP os by unfold wantP; rw [List.flatMap_cons, wrOp_bytes hw]]
      split <;> rfl
theorem wantP_append (os ps : List OpV) : wantP (os ++ ps) = wantP os ++ wantP ps := by simp [wantP]
def advO : OpV := ⟨10, 0, ⟨#[]⟩, [], 0, 0, 0, 0, 0⟩
theorem wr_adv : wrOp advO = some [9] := by decide +kernel
theorem bytes_adv : bytesP advO = [9] := wrOp_bytes wr_adv
theorem valid_adv : validP advO = true := by rw [validP_eq _ (by decide), wr_adv]; rfl
theorem want_adv (k : Nat) : wantP (List.replicate k advO) = List.replicate k 9 := by
  unfold wantP
  rw [List.flatMap_replicate, bytes_adv]
  induction k with
  | zero => rfl
  | succ k ih => rw [List.replicate_succ, List.flatten_cons, ih, List.replicate_succ]; rfl
end Go.Proofs.YtbcigelgggimmaaGreatDoor
namespace Go.Proofs.YtbcigelgggimmaaGreatDoor
open Go Go.RowKit
theorem at_any (B : Nat) (V : Value) (bs : List UInt8) (i : Nat) (w : World) (hv : Bts w B 5 V bs) (hi : i ≤ 1000000000) :
    Calls Tryz.prog 98 #[V, .int .i64 i] w fun e w' => e = .returned (.int .u8 ((atP bs i).toNat : Int)) ∧ w = w' := by
  obtain ⟨A, cap, rfl⟩ := hv.form
  have hl := hv.le
  unfold maxLen at hl
  by_cases h : i < bs.length
  · obtain ⟨A', cap', e, h1, h2, h3, h4⟩ := hv
    injection e with e1 e2 e3
    subst e1
    obtain ⟨b, off, rfl, hb, _, hc⟩ := h4 (by omega)
    have c0 := hc i h
    have ha : atP bs i = bs[i] := by unfold atP; rw [List.getD_eq_getElem?_getD, List.getElem?_eq_getElem h]; rfl
    rw [ha]
    clear ha hc h4 e2 e3 h1 h2 h3
    generalize (bs[i].toNat : Int) = x at c0 ⊢
    generalize bs.length = n at h hl ⊢
    have hI : (i : Int) < (n : Int) := by omega
    go_enter Tryz.func98, Tryz.ntmps98
    go_wp2_with fail
    go_ret
    exact ⟨rfl, rfl⟩
  · have ha : ((atP bs i).toNat : Int) = 0 := by unfold atP; rw [List.getD_eq_getElem?_getD, List.getElem?_eq_none (by omega)]; rfl
    rw [ha]
    clear hv ha
    generalize bs.length = n at h hl ⊢
    have hI : ¬ (i : Int) < (n : Int) := by omega
    go_enter Tryz.func98, Tryz.ntmps98
    go_wp2_with fail
    go_ret
    exact ⟨rfl, rfl⟩
set_option maxHeartbeats 1000000 in
theorem numR_any (B : Nat) (V : Value) (bs : List UInt8) (i m : Nat) (w : World) (hv : Bts w B 5 V bs) (hi : i ≤ 100000000) (hm : m ≤ 3) :
    Calls Tryz.prog 100 #[V, .int .i64 i, .int .i64 m] w fun e w' => e = .returned (.int .i64 (numP bs i m : Nat)) ∧ w = w' := by
  have H := Lib.hid (fun j (hj : j ≤ 3) => at_any B V bs (i + j) w hv (by omega))
  obtain ⟨A, cap, rfl⟩ := hv.form
  clear hv
  generalize bs.length = nb at H ⊢
  have hb : ∀ j, numP bs i j < 256 ^ j := fun j => by have := numBE_lt (partP bs i j); rwa [partP_length] at this
  have HB := Lib.hid hb
  clear hb
  have hmI : (m : Int) ≤ 3 := by omega
  go_enter Tryz.func100, Tryz.ntmps100
  go_wp2_with fail
  go_loopw [7, 8] (fun n k wr => ∃ j : Nat, j ≤ m ∧ k = .int .i64 j ∧ n = .int .i64 (numP bs i j : Nat) ∧ w = wr) (fun _ k _ => m - (intOf k).toNat)
  case atStart => exact ⟨0, Nat.zero_le _, rfl, rfl, rfl⟩
  case round =>
    obtain ⟨j, hj, rfl, rfl, rfl⟩ := hrel
    by_cases h : j < m
    · have hI : (j : Int) < (m : Int) := by omega
      have hjI : (j : Int) ≤ 3 := by omega
      have w1 : IntKind.i64.wrap ((i : Int) + (j : Int)) = ((i + j : Nat) : Int) := by rw [IntKind.wrap_i64]; omega
      have hlt : numP bs i j < 16777216 := Nat.lt_of_lt_of_le (HB.out j) (Nat.le_trans (Nat.pow_le_pow_right (by decide) (by omega : j ≤ 3)) (by decide))
      obtain ⟨x, hx⟩ : ∃ x, numP bs i j = x := ⟨_, rfl⟩
      obtain ⟨y, hy⟩ : ∃ y, (atP bs (i + j)).toNat = y := ⟨_, rfl⟩
      have hy256 : y < 256 := hy ▸ (atP bs (i + j)).toNat_lt
      have hs : Hid (numP bs i (j + 1) = x * 256 + y) := Lib.hid (by rw [numP_succ, hx, hy])
      have HJ := Lib.hid (H.out j (by omega))
      rw [hy] at HJ
      rw [hx] at hlt ⊢
      clear hx hy
      have hxI : (x : Int) < 16777216 := by omega
      have hyI : (y : Int) < 256 := by omega
      have hx0 : (0 : Int) ≤ (x : Int) := by omega
      have w2 : IntKind.i64.wrap (256 * (x : Int)) = 256 * (x : Int) := by rw [IntKind.wrap_i64]; omega
      have w3 : IntKind.i64.wrap (y : Int) = (y : Int) := by rw [IntKind.wrap_i64]; omega
      have w4 : IntKind.i64.wrap (256 * (x : Int) + (y : Int)) = 256 * (x : Int) + (y : Int) := by rw [IntKind.wrap_i64]; omega
      go_wp2_with fail
      refine HJ.out.mono ?_
      rintro e w2 ⟨rfl, rfl⟩
      go_wp2_with fail
      go_roundw
      case rel => exact ⟨j + 1, by omega, by go_num, by rw [hs.out]; go_num, trivial⟩
      case measure => simp [intOf]; omega
    · obtain rfl : j = m := by omega
      go_wp2_with fail
      go_ret
      exact ⟨rfl, rfl⟩
theorem src_oneR (w : World) (U : TypeId) (x : Int) : Src (w.alloc (.cells #[.int .u8 x] U)) 1 (some ⟨w.heap.size, 0, none⟩) 1 [.int .u8 x] := by
  refine ⟨rfl, (fun h => by cases h), fun a ha j u hu => ?_⟩
  cases ha
  rw [add_plain, Nat.zero_add]
  exact (Blk.new w U #[.int .u8 x]).cell j u (by simpa using hu)
/-- What the loop of part keeps. -/
structure PtI (w wr : World) (B : Nat) (V v : Value) (bs l : List UInt8) : Prop where
  src : Bts wr B 5 V bs
  row : wr.ownsRow w.heap.size 5 1 v l.length (bcells l)
  below : Below w.heap.size w wr
theorem PtI.step {w wr W8 : World} {B : Nat} {V v v8 : Value} {bs l : List UInt8} {x : UInt8} {ob : Obj} (h : PtI w wr B V v bs l) (h0 : Bts w B 5 V bs) (hown : W8.ownsRow w.heap.size 5 1 v8 (l.length + 1) (bcells l ++ [.int .u8 (x.toNat : Int)])) (hg : (wr.alloc ob).grownBy W8 v.ownBlock) : PtI w W8 B V v8 bs (l ++ [x]) := by
  have hb1 : Below w.heap.size w (wr.alloc ob) := h.below.alloc h.below.size ob
  have hb : Below w.heap.size w W8 := hb1.grown hg hb1.size (by intro k hk; exact (row_heap h.row hk).1)
  refine ⟨h0.below hb, ?_, hb⟩
  rw [List.length_append, show bcells (l ++ [x]) = bcells l ++ [.int .u8 (x.toNat : Int)] by simp [bcells]]
  exact hown
def PartRet (bs : List UInt8) (w : World) (e : Ending) (w' : World) : Prop := ∃ v, e = .returned v ∧ w'.ownsRow w.heap.size 5 1 v bs.length (bcells bs) ∧ Below w.heap.size w w'
set_option maxRecDepth 100000 in
set_option maxHeartbeats 2000000 in
theorem partR_any (B : Nat) (V : Value) (bs : List UInt8) (i m : Nat) (w : World) (hv : Bts w B 5 V bs) (hi : i ≤ 100000000) (hm : m ≤ 300) :
    Calls Tryz.prog 99 #[V, .int .i64 i, .int .i64 m] w (PartRet (partP bs i m) w) := by
  obtain ⟨i0, hi0, hz0, hz1, hz2⟩ := info_parts u8_info
  obtain ⟨A, cap, rfl⟩ := hv.form
  have HV := Lib.hid hv
  have HI0 : Hid (i ≤ 100000000) := Lib.hid hi
  obtain ⟨nb, hnb⟩ : ∃ nb, bs.length = nb := ⟨_, rfl⟩
  rw [hnb] at HV ⊢
  clear hv hnb
  have hmI : (m : Int) ≤ 300 := by omega
  have hiI : (i : Int) ≤ 100000000 := by omega
  go_enter Tryz.func99, Tryz.ntmps99
  go_wp2_with fail
  go_loopw [7, 8] (fun v k wr => ∃ j : Nat, j ≤ m ∧ k = .int .i64 j ∧ PtI w wr B (.slice A nb cap) v bs (partP bs i j)) (fun _ k _ => m - (intOf k).toNat)
  case atStart => exact ⟨0, Nat.zero_le _, rfl, HV.out, World.ownsRow_nil _ _ _ _, Below.refl _ _⟩
  case round =>
    obtain ⟨j, hj, rfl, hI⟩ := hrel
    have hrow := hI.row
    obtain ⟨A9, c9, rfl, _, _⟩ := own_form hrow
    have HI := Lib.hid hI
    clear hrow hI
    by_cases h : j < m
    · have hI : (j : Int) < (m : Int) := by omega
      have hjI : (j : Int) ≤ 300 := by omega
      have w1 : IntKind.i64.wrap ((i : Int) + (j : Int)) = ((i + j : Nat) : Int) := by rw [IntKind.wrap_i64]; omega
      have HA := Lib.hid (at_any B _ bs (i + j) wr HI.out.src (by have := HI0.out; omega))
      obtain ⟨x, hx⟩ : ∃ x, atP bs (i + j) = x := ⟨_, rfl⟩
      have HX : Hid (partP bs i (j + 1) = partP bs i j ++ [x]) := Lib.hid (by rw [partP_succ, hx])
      rw [hx] at HA
      clear hx
      obtain ⟨l, hl⟩ : ∃ l, partP bs i j = l := ⟨_, rfl⟩
      have hll : l.length = j := by rw [← hl, partP_length]
      rw [hl] at HI HX ⊢
      clear hl
      have HLl := Lib.hid hll
      obtain ⟨xi, hxi⟩ : ∃ xi : Int, (x.toNat : Int) = xi := ⟨_, rfl⟩
      have HXi := Lib.hid hxi
      rw [hxi] at HA
      clear hll hxi
      go_wp2_with fail
      refine HA.out.mono ?_
      rintro e w2 ⟨rfl, rfl⟩
      clear HA
      go_wp2_with (at_builtin; refine wpList_append_src _ rfl _ _ _ rfl w.heap.size 5 i0 _ 1 1 Tryz.underlying39 hi0 hz0 hz1 hz2 rfl (by decide) _ l.length (bcells l) rfl (own_later HI.out.row ((Below.refl _ _).alloc (Nat.le_refl _) _)) (some ⟨wr.heap.size, 0, none⟩) 1 1 [.int .u8 xi] rfl (src_oneR _ _ _) (by intro u hu; rw [List.mem_singleton.1 hu]; rfl) (by have := HLl.out; unfold maxLen; omega) (by have := HLl.out; omega) (by have := HI.out.below.size; simp; omega) ?_; intro v8 w8 hown8 hg8 hat8)
      have hst : PtI w w8 B (.slice A nb cap) v8 bs (l ++ [x]) := HI.out.step HV.out (by rw [HXi.out]; exact hown8) hg8
      have HSt := Lib.hid hst
      clear hst hown8 hg8 hat8
      go_roundw
      case rel => exact ⟨j + 1, by omega, by go_num, by rw [HX.out]; exact HSt.out⟩
      case measure => simp [intOf]; omega
    · obtain rfl : j = m := by omega
      go_wp2_with fail
      go_ret
      exact ⟨_, rfl, HI.out.row, HI.out.below⟩
def kindCells : Array Value := (kindL.map fun k => Value.int .i64 k).toArray
theorem kinds_any (w : World) : Calls Tryz.prog 50 #[] w fun e w' => e = .returned (.slice (some ⟨w.heap.size, 0, none⟩) 16 16) ∧ w' = w.alloc (.cells kindCells 37) := by
  go_enter Tryz.func50, Tryz.ntmps50
  go_wp2_with fail
  go_ret
  exact ⟨rfl, rfl⟩
end Go.Proofs.YtbcigelgggimmaaGreatDoor
namespace Go.Proofs.YtbcigelgggimmaaGreatDoor
open Go Go.RowKit
theorem keyed_any (k : Int) (w : World) : Calls Tryz.prog 51 #[.int .i64 k] w fun e w' => e = .returned (.bool (keyedP k)) ∧ w = w' := by
  have hk : keyedP k = (k == 1 || k == 2 || k == 3 || k == 4 || k == 5 || k == 6) := by unfold keyedP; rw [Bool.eq_iff_iff]; simp [or_assoc]
  rw [hk]
  go_enter Tryz.func51, Tryz.ntmps51
  go_wp2_with fail
  all_goals go_ret
  all_goals exact ⟨by first | rfl | simp_all, rfl⟩
theorem valued_any (k : Int) (w : World) : Calls Tryz.prog 52 #[.int .i64 k] w fun e w' => e = .returned (.bool (valuedP k)) ∧ w = w' := by
  have hk : valuedP k = (k == 1 || k == 2) := by unfold valuedP; rw [Bool.eq_iff_iff]; simp
  rw [hk]
  go_enter Tryz.func52, Tryz.ntmps52
  go_wp2_with fail
  all_goals go_ret
  all_goals exact ⟨by first | rfl | simp_all, rfl⟩
theorem timed_any (k : Int) (w : World) : Calls Tryz.prog 53 #[.int .i64 k] w fun e w' => e = .returned (.bool (timedP k)) ∧ w = w' := by
  have hk : timedP k = (k == 2 || k == 5) := by unfold timedP; rw [Bool.eq_iff_iff]; simp
  rw [hk]
  go_enter Tryz.func53, Tryz.ntmps53
  go_wp2_with fail
  all_goals go_ret
  all_goals exact ⟨by first | rfl | simp_all, rfl⟩
theorem aimed_any (k : Int) (w : World) : Calls Tryz.prog 55 #[.int .i64 k] w fun e w' => e = .returned (.bool (aimedP k)) ∧ w = w' := by
  have hk : aimedP k = (k == 12 || k == 13 || k == 14) := by unfold aimedP; rw [Bool.eq_iff_iff]; simp [or_assoc]
  rw [hk]
  go_enter Tryz.func55, Tryz.ntmps55
  go_wp2_with fail
  all_goals go_ret
  all_goals exact ⟨by first | rfl | simp_all, rfl⟩
/-- Which parts a kind has. -/
theorem classes : ∀ k ∈ kindL, (keyedP k, valuedP k, timedP k, k == 8, aimedP k, k == 13) ∈ [(true, false, false, false, false, false), (true, true, false, false, false, false), (true, true, true, false, false, false), (true, false, true, false, false, false), (false, false, false, true, false, false), (false, false, false, false, true, false), (false, false, false, false, true, true), (false, false, false, false, false, false)] := by decide
/-- What holds while an operation is read. -/
structure FI (w W : World) (B g : Nat) (V0 : Value) (bs : List UInt8) (k : Int) (q : OpV × Nat) (A : Option Addr) (c : Nat) : Prop where
  src : Bts W B 5 V0 bs
  res : Blk W w.heap.size 41 (opc ⟨0, 0, ⟨#[]⟩, [], 0, 0, 0, 0, 0⟩ (.slice none 0 0))
  op : Blk W g 41 (opc q.1 (.slice A q.1.val.length c))
  val : Bts W B 5 (.slice A q.1.val.length c) q.1.val
  kind : q.1.kind = k
  below : Below w.heap.size w W
  big : q.2 ≤ 10000
  gt : w.heap.size < g
section
variable {w W W' : World} {B g : Nat} {V0 : Value} {bs : List UInt8} {k : Int} {q : OpV × Nat} {A : Option Addr} {c : Nat}
theorem FI.adv (h : FI w W B g V0 bs k q A c) (hb : Below W.heap.size W W') : FI w W' B g V0 bs k q A c :=
  ⟨h.src.below hb, h.res.below hb, h.op.below hb, h.val.below hb, h.kind, h.below.trans (hb.mono h.below.size), h.big, h.gt⟩
/-- A cell of the operation is stored. -/
theorem FI.store (h : FI w W B g V0 bs k q A c) (hB : B ≤ w.heap.size) {q' : OpV × Nat} {j : Nat} {v : Value} {A' : Option Addr} {c' : Nat} (hs : (opc q.1 (.slice A q.1.val.length c)).setIfInBounds j v = opc q'.1 (.slice A' q'.1.val.length c'))
    (hv : Bts W B 5 (.slice A' q'.1.val.length c') q'.1.val) (hk : q'.1.kind = k) (hq : q'.2 ≤ 10000) : FI w (W.setCell ⟨g, j, none⟩ v) B g V0 bs k q' A' c' := by
  have ho : Only (fun k => k = g) W (W.setCell ⟨g, j, none⟩ v) := Only.set1 _ _ _ _
  have hkb : KeepB B 5 W (W.setCell ⟨g, j, none⟩ v) := KeepB.of_blk h.op (by decide) (by have := h.gt; omega) ho
  have := h.gt
  refine ⟨h.src.keep hkb, h.res.only ho (by omega), ?_, hv.keep hkb, hk, h.below.trans (ho.below (fun i hi _ e => by omega) h.below.size), hq, h.gt⟩
  rw [← hs]
  exact h.op.set_ _ _
end
end Go.Proofs.YtbcigelgggimmaaGreatDoor

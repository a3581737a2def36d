/- Keys, LbN, SymCB, SymCQ, SymCR, SymCS, SymCT, SymCU, SymCV -/
import Derived.Shelf.SlIter.Nil
import Derived.Shelf.SortM.Plain
import Derived.Shelf.SortM.SortNone
import Derived.Ground.GgzProg
import Derived.Ground.SlgmProg
import Derived.Test.YtcpophfchchpkaaGreatDoorProg
import Derived.Test.YtcpophfchchpkaaGreatDoorMf13
import Derived.Test.YtcpophfchchpkaaGreatDoorMf12
namespace Go.Proofs
open Go.Shelf
def Tryz.keysA_ren : Go.Shelf.Ren := ⟨fun | 7 => 27 | 10 => 41 | n => n, fun | 23 => 24 | 26 => 9 | 3 => 29 | 28 => 80 | 0 => 0 | 27 => 79 | 33 => 76 | 4 => 4 | n => n, fun | n => n⟩
theorem Tryz.keysA : Go.Proofs.SlLaysZ.n7 Tryz.prog Tryz.keysA_ren := {
  mixed := by kernel_rfl
  f7 := ⟨Tryz.f27.name, by decide, Tryz.func27.trans (congrArg some (by kernel_rfl))⟩
  f10 := ⟨Tryz.f41.name, by decide, Tryz.func41.trans (congrArg some (by kernel_rfl))⟩
  t0 := Tryz.underlying0
  a0 := Tryz.isAgg0
  z0 := Tryz.sizeOf0
  v0 := Tryz.zeroValue0
  t4 := Tryz.underlying4
  a4 := Tryz.isAgg4
  z4 := Tryz.sizeOf4
  v4 := Tryz.zeroValue4
  t23 := Tryz.underlying24
  a23 := Tryz.isAgg24
  z23 := Tryz.sizeOf24
  v23 := Tryz.zeroValue24
  t26 := Tryz.underlying9
  a26 := Tryz.isAgg9
  z26 := Tryz.sizeOf9
  v26 := Tryz.zeroValue9
  t27 := Tryz.underlying79
  a27 := Tryz.isAgg79
  z27 := Tryz.sizeOf79
  v27 := Tryz.zeroValue79
  t28 := Tryz.underlying80
  a28 := Tryz.isAgg80
  z28 := Tryz.sizeOf80
  v28 := Tryz.zeroValue80
  t33 := Tryz.underlying76
  a33 := Tryz.isAgg76
  z33 := Tryz.sizeOf76
  v33 := Tryz.zeroValue76 }
def Tryz.sortedA_ren : Go.Shelf.Ren := ⟨fun | 6 => 26 | 8 => 39 | 9 => 40 | 11 => 55 | 13 => 57 | 12 => 56 | 23 => 91 | 24 => 92 | 14 => 82 | 15 => 83 | 16 => 84 | 17 => 85 | 18 => 86 | 19 => 87 | 20 => 88 | 21 => 89 | 22 => 90 | 25 => 138 | 26 => 139 | 27 => 140 | 28 => 141 | 29 => 142 | 30 => 143 | 31 => 189 | n => n, fun | 26 => 9 | 28 => 80 | 24 => 30 | 0 => 0 | 3 => 3 | 37 => 129 | 48 => 75 | 50 => 47 | 4 => 4 | 40 => 161 | 39 => 160 | 45 => 166 | 5 => 5 | 9 => 9 | 51 => 217 | 55 => 221 | 57 => 309 | 58 => 260 | 33 => 76 | n => n, fun | n => n⟩
theorem Tryz.sortedA : Go.Proofs.SlLaysZ.n6 Tryz.prog Tryz.sortedA_ren := {
  mixed := by kernel_rfl
  f6 := ⟨Tryz.f26.name, by decide, Tryz.func26.trans (congrArg some (by kernel_rfl))⟩
  f8 := ⟨Tryz.f39.name, by decide, Tryz.func39.trans (congrArg some (by kernel_rfl))⟩
  f11 := ⟨Tryz.f55.name, by decide, Tryz.func55.trans (congrArg some (by kernel_rfl))⟩
  t0 := Tryz.underlying0
  a0 := Tryz.isAgg0
  z0 := Tryz.sizeOf0
  v0 := Tryz.zeroValue0
  t24 := Tryz.underlying30
  a24 := Tryz.isAgg30
  z24 := Tryz.sizeOf30
  v24 := Tryz.zeroValue30
  t26 := Tryz.underlying9
  a26 := Tryz.isAgg9
  z26 := Tryz.sizeOf9
  v26 := Tryz.zeroValue9
  t28 := Tryz.underlying80
  a28 := Tryz.isAgg80
  z28 := Tryz.sizeOf80
  v28 := Tryz.zeroValue80
  i26 := by kernel_rfl }
def Tryz.sortA_ren : Go.Shelf.Ren := ⟨fun | 6 => 40 | 8 => 57 | 9 => 56 | 19 => 91 | 20 => 92 | 21 => 82 | 22 => 83 | 23 => 84 | 24 => 85 | 25 => 86 | 26 => 87 | 27 => 88 | 28 => 89 | 29 => 90 | 36 => 138 | 31 => 139 | 32 => 140 | 37 => 141 | 38 => 142 | 39 => 143 | 41 => 189 | n => n, fun | 27 => 30 | 29 => 9 | 3 => 3 | 32 => 129 | 26 => 30 | 0 => 0 | 44 => 75 | 46 => 47 | 4 => 4 | 36 => 161 | 35 => 160 | 41 => 166 | 5 => 5 | 9 => 9 | 53 => 217 | 57 => 221 | 63 => 309 | 64 => 260 | n => n, fun | n => n⟩
theorem Tryz.sortA : Go.Proofs.SlLaysM.n6 Tryz.prog Tryz.sortA_ren := {
  mixed := by kernel_rfl
  f6 := ⟨Tryz.f40.name, by decide, Tryz.func40.trans (congrArg some (by kernel_rfl))⟩
  f8 := Tryz.func57.trans (congrArg some (by kernel_rfl))
  f9 := ⟨Tryz.f56.name, by decide, Tryz.func56.trans (congrArg some (by kernel_rfl))⟩
  f19 := Tryz.func91.trans (congrArg some (by kernel_rfl))
  f20 := Tryz.func92.trans (congrArg some (by kernel_rfl))
  f21 := ⟨Tryz.f82.name, by decide, Tryz.func82.trans (congrArg some (by kernel_rfl))⟩
  f22 := ⟨Tryz.f83.name, by decide, Tryz.func83.trans (congrArg some (by kernel_rfl))⟩
  f23 := ⟨Tryz.f84.name, by decide, Tryz.func84.trans (congrArg some (by kernel_rfl))⟩
  f24 := ⟨Tryz.f85.name, by decide, Tryz.func85.trans (congrArg some (by kernel_rfl))⟩
  f25 := ⟨Tryz.f86.name, by decide, Tryz.func86.trans (congrArg some (by kernel_rfl))⟩
  f26 := ⟨Tryz.f87.name, by decide, Tryz.func87.trans (congrArg some (by kernel_rfl))⟩
  f27 := ⟨Tryz.f88.name, by decide, Tryz.func88.trans (congrArg some (by kernel_rfl))⟩
  f28 := ⟨Tryz.f89.name, by decide, Tryz.func89.trans (congrArg some (by kernel_rfl))⟩
  f29 := ⟨Tryz.f90.name, by decide, Tryz.func90.trans (congrArg some (by kernel_rfl))⟩
  f31 := Tryz.func139.trans (congrArg some (by kernel_rfl))
  f32 := Tryz.func140.trans (congrArg some (by kernel_rfl))
  f36 := ⟨Tryz.f138.name, by decide, Tryz.func138.trans (congrArg some (by kernel_rfl))⟩
  f37 := ⟨Tryz.f141.name, by decide, Tryz.func141.trans (congrArg some (by kernel_rfl))⟩
  f38 := ⟨Tryz.f142.name, by decide, Tryz.func142.trans (congrArg some (by kernel_rfl))⟩
  f39 := ⟨Tryz.f143.name, by decide, Tryz.func143.trans (congrArg some (by kernel_rfl))⟩
  f41 := ⟨Tryz.f189.name, by decide, Tryz.func189.trans (congrArg some (by kernel_rfl))⟩
  t0 := Tryz.underlying0
  a0 := Tryz.isAgg0
  z0 := Tryz.sizeOf0
  v0 := Tryz.zeroValue0
  t3 := Tryz.underlying3
  a3 := Tryz.isAgg3
  z3 := Tryz.sizeOf3
  v3 := Tryz.zeroValue3
  t4 := Tryz.underlying4
  a4 := Tryz.isAgg4
  z4 := Tryz.sizeOf4
  v4 := Tryz.zeroValue4
  t5 := Tryz.underlying5
  a5 := Tryz.isAgg5
  z5 := Tryz.sizeOf5
  v5 := Tryz.zeroValue5
  t9 := Tryz.underlying9
  a9 := Tryz.isAgg9
  z9 := Tryz.sizeOf9
  v9 := Tryz.zeroValue9
  t26 := Tryz.underlying30
  a26 := Tryz.isAgg30
  z26 := Tryz.sizeOf30
  v26 := Tryz.zeroValue30
  t27 := Tryz.underlying30
  a27 := Tryz.isAgg30
  z27 := Tryz.sizeOf30
  v27 := Tryz.zeroValue30
  t29 := Tryz.underlying9
  a29 := Tryz.isAgg9
  z29 := Tryz.sizeOf9
  v29 := Tryz.zeroValue9
  t32 := Tryz.underlying129
  a32 := Tryz.isAgg129
  z32 := Tryz.sizeOf129
  v32 := Tryz.zeroValue129
  t35 := Tryz.underlying160
  a35 := Tryz.isAgg160
  z35 := Tryz.sizeOf160
  v35 := Tryz.zeroValue160
  t36 := Tryz.underlying161
  a36 := Tryz.isAgg161
  z36 := Tryz.sizeOf161
  v36 := Tryz.zeroValue161
  t41 := Tryz.underlying166
  a41 := Tryz.isAgg166
  z41 := Tryz.sizeOf166
  v41 := Tryz.zeroValue166
  t44 := Tryz.underlying75
  a44 := Tryz.isAgg75
  z44 := Tryz.sizeOf75
  v44 := Tryz.zeroValue75
  t46 := Tryz.underlying47
  a46 := Tryz.isAgg47
  z46 := Tryz.sizeOf47
  v46 := Tryz.zeroValue47
  t53 := Tryz.underlying217
  a53 := Tryz.isAgg217
  z53 := Tryz.sizeOf217
  v53 := Tryz.zeroValue217
  t57 := Tryz.underlying221
  a57 := Tryz.isAgg221
  z57 := Tryz.sizeOf221
  v57 := Tryz.zeroValue221
  t63 := Tryz.underlying309
  a63 := Tryz.isAgg309
  z63 := Tryz.sizeOf309
  v63 := Tryz.zeroValue309
  t64 := Tryz.underlying260
  a64 := Tryz.isAgg260
  z64 := Tryz.sizeOf260
  v64 := Tryz.zeroValue260 }
end Go.Proofs
namespace Go.Proofs.YtcpophfchchpkaaGreatDoor
open Go Go.RowKit Go.Maps Go.Sort Go.Shelf
theorem sorts_A (m : Nat) : AnyZ.SortsIn Tryz.prog Tryz.sortedA_ren Fence.wide m :=
  ⟨fun blk off cap ss W hH hblk hsz => callsIn_wide.2 (AnyM.slices_Sort_string Tryz.sortA blk off cap ss W hH hblk hsz),
   fun p cap W => callsIn_wide.2 (AnyM.slices_Sort_string_none Tryz.sortA p cap W)⟩
set_option maxHeartbeats 1000000 in
theorem names_any {H : Type} (x b nn : Nat) (D0 : DataW H) (R : Value → Option (DataW H × List MemPlace)) (w : World) (hx : w.cell? ⟨x, 0, none⟩ = some (.map (some b))) (hown : w.ownsMap Tryz.prog 9 R b nn D0) (hmax : Maps.size D0 ≤ maxLen) (hbytes : Maps.size D0 * 16 ≤ 140737488355328) :
    Calls Tryz.prog 7 #[.pointer (some ⟨x, 0, none⟩)] w fun e w' => ∃ (v : Value) (ss : List (List UInt8)), e = .returned v ∧ ss.Perm (strKeys D0) ∧
      w'.ownsRow w.heap.size 9 1 v ss.length ((ss.mergeSort (fun x y => decide (x ≤ y))).map encStr) ∧ (v = .slice none 0 0 ↔ ss = []) ∧ Below w.heap.size w w' := by
  refine (callsIn_wide (n := 6)).1 ?_
  have hbl := hown.lt
  have hseq : SeqGives Fence.wide 2 Tryz.prog 41 #[.pointer (some ⟨w.heap.size, 0, none⟩)] encStr (fun ss => ss.Perm (strKeys D0)) (Maps.size D0) (w.alloc (.cells #[.map (some b)] 24)) :=
    AnyZ.keys_gives (ρ := Tryz.keysA_ren) { Tryz.keysA with } Fence.wide _ trivial rfl (by omega) w.heap.size b nn D0 _ (by simp) (by simp) (by
      obtain ⟨es, clock, hb, Ft, hs, hD⟩ := hown
      exact ⟨es, clock, (Below.heap_alloc _ _ b hbl).trans hb, Ft, hs, hD⟩)
  have cK : ∀ mb W, CallsIn Fence.wide 5 Tryz.prog 27 #[.map mb] W fun e w' => e = .returned (.func (.func 41) #[] #[.pointer (some ⟨W.heap.size, 0, none⟩)]) ∧ w' = W.alloc (.cells #[.map mb] 24) := fun mb W => AnyZ.keys_in Tryz.keysA Fence.wide 5 trivial rfl mb W
  have cS := AnyZ.sorted_in Tryz.sortedA Fence.wide 5 trivial trivial trivial trivial rfl (by omega) (sorts_A _) (enters_of Tryz.func40 (by kernel_rfl) rfl) 41 #[.pointer (some ⟨w.heap.size, 0, none⟩)] trivial (enters_of Tryz.func41 (by kernel_rfl) rfl) _ _ hmax hbytes _ hseq
  change CallsIn _ _ Tryz.prog 26 _ _ _ at cS
  have hfK : Fence.wide.fn 27 := trivial
  have hfS : Fence.wide.fn 26 := trivial
  refine callsIn_of_wp Tryz.func7 rfl trivial ?_ rfl
  simp only [Tryz.ntmps7, List.size_toArray, List.length_cons, List.length_nil, Nat.reduceAdd, Nat.reduceSub, Array.replicate_succ, Array.replicate_zero, List.push_toArray, List.append_toArray, List.nil_append, List.cons_append]
  gi_wp2_with (first
    | (gi_at_call 27; refine (cK _ _).mono ?_; rintro e w' ⟨rfl, rfl⟩)
    | (gi_at_call 26; refine cS.mono ?_; rintro e w' ⟨v, ss, rfl, hS, hrow, hnil, hb⟩))
  go_ret
  exact ⟨v, ss, rfl, hS, ownsRow_base_a hrow (by simp), hnil, ((Below.refl _ w).alloc (Nat.le_refl _) _).trans (hb.mono (by simp))⟩
end Go.Proofs.YtcpophfchchpkaaGreatDoor
namespace Go.Sy
open Go Go.RowKit
noncomputable def putRs {β : Type} (rs : List (Nat × GV)) : Heap → (Heap → β) → β :=
  List.rec (motive := fun _ => Heap → (Heap → β) → β) (fun H k => k H)
    (fun g _ ih H k => putCells g.2.l .e 0 fun c => frc (len g.2.l) fun m => Q8.set (some (.row g.2.t (fun _ => none) m c true false)) H g.1 fun H => ih H k) rs
noncomputable def sameRs (H : Heap) (rs : List (Nat × GV)) : Prop :=
  List.rec True (fun g _ ih => sameG g.2 (Q8.get H g.1) ∧ ih) rs
noncomputable def runP (P : Program) (O : Orc) (fuel : Nat) (f : FuncId) (args : List AV) (res : AV) (rs : List (Nat × GV)) (nb : Nat) : Prop :=
  putRs rs Q8.e fun H => match (ev P O fuel).ef f args (Nat.add 64 nb) H with
    | .ok v n' H' => (match Nat.ble n' 65536 with | true => v = res ∧ sameRs H' rs | false => False)
    | .er _ => False
noncomputable def hR : List (Nat × GV) → Heap → Heap
  | [], H => H
  | g :: rs, H => hR rs (Q8.upd H g.1 (some (rowG g.2)))
theorem putRs_k {β : Type} (rs : List (Nat × GV)) : ∀ (H : Heap) (k : Heap → β), putRs rs H k = k (hR rs H) := by
  induction rs with
  | nil => intro H k; rfl
  | cons g rs ih =>
    intro H k
    show putCells g.2.l .e 0 (fun c => frc (len g.2.l) fun m => Q8.set (some (.row g.2.t (fun _ => none) m c true false)) H g.1 fun H => putRs rs H k) = _
    rw [putCells_k, frc_eq, Q8.set_k, ih, len_eq]
    rfl
theorem get_hR (rs : List (Nat × GV)) : ∀ (H : Heap) (x : Nat), (∀ g ∈ rs, g.1 < LIM) → x < LIM → Q8.get (hR rs H) x = Q8.get H x ∨ ∃ g ∈ rs, g.1 = x ∧ Q8.get (hR rs H) x = some (rowG g.2) := by
  induction rs with
  | nil => intro H x _ _; exact .inl rfl
  | cons g rs ih =>
    intro H x hl hx
    rcases ih (Q8.upd H g.1 (some (rowG g.2))) x (fun g hg => hl g (List.mem_cons_of_mem _ hg)) hx with h | ⟨y, h1, h2, h3⟩
    · rw [Q8.get_upd _ _ _ _ (hl g List.mem_cons_self) hx] at h
      by_cases he : g.1 = x
      · rw [if_pos he] at h
        exact .inr ⟨g, List.mem_cons_self, he, h⟩
      · rw [if_neg he] at h; exact .inl h
    · exact .inr ⟨y, List.mem_cons_of_mem _ h1, h2, h3⟩
theorem sameRs_at {H : Heap} : ∀ {rs : List (Nat × GV)}, sameRs H rs → ∀ g ∈ rs, sameG g.2 (Q8.get H g.1)
  | [], _, g, hg => by cases hg
  | g' :: rs, h, g, hg => by
    have h : sameG g'.2 (Q8.get H g'.1) ∧ sameRs H rs := h
    rcases List.mem_cons.1 hg with rfl | hg
    · exact h.1
    · exact sameRs_at h.2 g hg
/-- The symbols at first: the program's variables, the arguments' blocks. -/
def sgB (bs : List Nat) : Sg := ⟨fun x => if x < 64 then some x else bs[x - 64]?, fun _ => 0⟩
theorem sgB_some {bs : List Nat} {x b : Nat} (h : (sgB bs).blk x = some b) : (x < 64 ∧ b = x) ∨ (64 ≤ x ∧ x < 64 + bs.length ∧ bs[x - 64]? = some b) := by
  simp only [sgB] at h
  split at h
  · rename_i hx; injection h with h; exact .inl ⟨hx, h.symm⟩
  · rename_i hx
    have := (List.getElem?_eq_some_iff.1 h).1
    exact .inr ⟨by omega, by omega, h⟩
/-- What a run starts from: rows whole, each in a block of its own. -/
structure RowsAt (w : World) (rs : List (Nat × GV)) (bs : List Nat) : Prop where
  good : ∀ g ∈ rs, g.2.Good
  blk : ∀ g ∈ rs, ∃ b, (sgB bs).blk g.1 = some b ∧ w.heap[b]? = some (Obj.cells ⟨g.2.vs⟩ g.2.t (0, 0))
  inj : ∀ g ∈ rs, ∀ g' ∈ rs, ∀ b, (sgB bs).blk g.1 = some b → (sgB bs).blk g'.1 = some b → g.1 = g'.1
  few : bs.length ≤ 1000
section
variable {P : Program}
theorem run_args {O : Orc} (hm : P.follows .mixedOrders = true) (hO : OrcOk P O) {fuel : Nat} {f : FuncId} {args : List AV} {res : AV} {rs : List (Nat × GV)} {bs : List Nat} {Args : List Value} {V : Value}
    {w : World} (hrs : RowsAt w rs bs) (hA : concL (sgB bs) args = some Args) (hV : ∀ s, res.conc s = some V) (h : runP P O fuel f args res rs bs.length) : Calls P f ⟨Args⟩ w fun e w' => e = .returned V ∧ Below w.heap.size w w' := by
  have hL : (65536 : Nat) = LIM := rfl
  have hfew := hrs.few
  have hlt : ∀ g ∈ rs, g.1 < LIM := fun g hg => by
    obtain ⟨b, hb, _⟩ := hrs.blk g hg
    rcases sgB_some hb with ⟨a1, a2⟩ | ⟨a1, a2, a3⟩ <;> omega
  unfold runP at h
  rw [putRs_k] at h
  have hget : ∀ x, x < LIM → Q8.get (hR rs Q8.e) x = none ∨ ∃ g ∈ rs, g.1 = x ∧ Q8.get (hR rs Q8.e) x = some (rowG g.2) := fun x hx => by
    rcases get_hR rs Q8.e x hlt hx with h | h
    · exact .inl (h.trans (Q8.get_e x))
    · exact .inr h
  have hr0 : Rel P (sgB bs) (hR rs Q8.e) w := by
    refine ⟨fun x b hb => ?_, fun g hg => by simp [sgB, hg], fun x A hx hA => ?_, fun x y b hx hy h1 h2 h3 h4 => ?_⟩
    · rcases sgB_some hb with ⟨a1, a2⟩ | ⟨a1, a2, a3⟩ <;> omega
    · rcases hget x hx with h | ⟨g, hg, rfl, h⟩
      · rw [h] at hA; cases hA
      · rw [h] at hA; injection hA with hA; subst hA
        obtain ⟨b, hb, hw⟩ := hrs.blk g hg
        exact ⟨b, _, hb, hw, rowG_good (hrs.good g hg) _ _⟩
    · rcases hget x hx with h | ⟨g, hg, rfl, h⟩
      · exact absurd h h1
      · rcases hget y hy with h' | ⟨g', hg', rfl, h'⟩
        · exact absurd h' h2
        · exact hrs.inj g hg g' hg' b h3 h4
  split at h
  · rename_i v n' H' hev
    split at h
    · rename_i h2
      obtain ⟨h1, h⟩ := h
      subst h1
      refine callsIn_wide.1 (calls_of_ev hm hO hev hA hr0 (fun x h1 _ => ?_) (Nat.le_of_ble_eq_true h2) fun V' s' w' hv hr hs => ?_)
      · have h1 : 64 + bs.length ≤ x := h1
        simp only [sgB]
        rw [if_neg (by omega), List.getElem?_eq_none (by omega)]
      rw [hV] at hv
      injection hv with hv
      subst hv
      refine ⟨rfl, hs.os, hs.tape, hs.output, hs.size, fun k hk => ?_⟩
      have hoff : ∀ x, x < 64 + bs.length → s'.blk x = (sgB bs).blk x := fun x hx => (hs.off x (.inl hx)).1
      by_cases hex : ∃ x, x < LIM ∧ Q8.get (hR rs Q8.e) x ≠ none ∧ (sgB bs).blk x = some k
      · obtain ⟨x, hx, hxn, hxb⟩ := hex
        rcases hget x hx with h' | ⟨g, hg, rfl, h'⟩
        · exact absurd h' hxn
        · have hsm := sameRs_at h g hg
          cases hB : Q8.get H' g.1 with
          | none => rw [hB] at hsm; exact hsm.elim
          | some B =>
            rw [hB] at hsm
            obtain ⟨b, o, b1, b2, b3⟩ := hr.blk g.1 B hx hB
            have hx2 : g.1 < 64 + bs.length := by rcases sgB_some hxb with ⟨a1, a2⟩ | ⟨a1, a2, a3⟩ <;> omega
            rw [hoff g.1 hx2, hxb] at b1
            injection b1 with b1; subst b1
            obtain ⟨b', hb', hw⟩ := hrs.blk g hg
            rw [hxb] at hb'; injection hb' with hb'; subst hb'
            rw [b2, hw, sameG_row (hrs.good g hg) hsm b3]
      · exact hs.frame k hk fun x hx h1 h2 => hex ⟨x, hx, h1, h2⟩
    · cases h
  · cases h
theorem rowsAt_nil (w : World) : RowsAt w [] [] := ⟨by simp, by simp, by simp, by simp⟩
/-- No rows: values alone. -/
theorem run_vals {O : Orc} (hm : P.follows .mixedOrders = true) (hO : OrcOk P O) {fuel : Nat} {f : FuncId} {args : List AV} {res : AV} {Args : List Value} {V : Value}
    (hA : concL (sgB []) args = some Args) (hV : ∀ s, res.conc s = some V) (h : runP P O fuel f args res [] 0) (w : World) : Calls P f ⟨Args⟩ w fun e w' => e = .returned V ∧ Below w.heap.size w w' :=
  run_args hm hO (rowsAt_nil w) hA hV h
/-- The program's variables. -/
theorem rowsAt_globals {w : World} {rs : List (Nat × GV)} (hg : ∀ g ∈ rs, g.2.Good) (hw : ∀ g ∈ rs, g.1 < 64 ∧ w.heap[g.1]? = some (Obj.cells ⟨g.2.vs⟩ g.2.t (0, 0))) : RowsAt w rs [] := by
  refine ⟨hg, fun g h => ⟨g.1, by simp [sgB, (hw g h).1], (hw g h).2⟩, fun g h g' h' b e e' => ?_, by simp⟩
  rcases sgB_some e with ⟨a1, a2⟩ | ⟨a1, a2, a3⟩ <;> rcases sgB_some e' with ⟨b1, b2⟩ | ⟨b1, b2, b3⟩ <;> first | omega | (simp at a2 b2; omega) | (simp at a3) | (simp at b3)
end
/-- Integers in a row. -/
def gInts (k : IntKind) (t : TypeId) (l : List Nat) : GV := ⟨t, l.map fun n => .i k (.ofNat n), l.map fun n => .int k (.ofNat n)⟩
theorem gInts_good (k : IntKind) (t : TypeId) (l : List Nat) : (gInts k t l).Good := by
  refine ⟨fun s => ?_, fun v hv => ?_⟩
  · show concL s (l.map fun n => .i k (.ofNat n)) = some (l.map fun n => .int k (.ofNat n))
    induction l with
    | nil => rfl
    | cons a r ih => exact concL_cons.2 ⟨_, _, rfl, ih, rfl⟩
  · simp only [gInts, List.mem_map] at hv
    obtain ⟨n, _, rfl⟩ := hv
    rfl
def bruijnN : List Nat := [0,1,56,2,57,49,28,3,61,58,42,50,38,29,17,4,62,47,59,36,45,43,51,22,53,39,33,30,24,18,12,5,63,55,48,27,60,41,37,16,46,35,44,21,52,32,23,11,54,26,40,15,34,20,31,10,25,14,19,9,13,8,7,6]
def kindsN : List Nat := [3,1,2,4,5,6,7,8,9,10,11,12,13,14,3,1]
end Go.Sy
namespace Go.Sy
open Go Go.RowKit
section
variable {P : Program}
theorem Rel.below {s : Sg} {H : Heap} {w w' : World} (h : Rel P s H w) (hb : Below w.heap.size w w') : Rel P s H w' :=
  ⟨h.lim, h.glob, fun x A hx hA => by
    obtain ⟨b, o, h1, h2, h3⟩ := h.blk x A hx hA
    exact ⟨b, o, h1, (hb.block b (Array.getElem?_eq_some_iff.1 h2).1).trans h2, h3⟩, h.inj⟩
theorem Step.below {s : Sg} {n : Nat} {H : Heap} {w w' : World} (hb : Below w.heap.size w w') : Step s n H w s n H w' :=
  ⟨fun _ _ => ⟨rfl, rfl⟩, hb.size, fun b hlt _ => hb.block b hlt, fun y _b hy h1 h2 _ => ⟨y, hy, h1, h2⟩, hb.os, hb.tape, hb.output⟩
theorem fnGood_quiet {f : FuncId} {args : List AV} {n : Nat} {H : Heap} {v : AV} {V : Value} (hv : ∀ s, v.conc s = some V)
    (hT : ∀ (s : Sg) (w : World) (Args : List Value), concL s args = some Args → Rel P s H w → Calls P f ⟨Args⟩ w fun e w' => e = .returned V ∧ Below w.heap.size w w') : FnGood P f args n H v n H := by
  refine ⟨Nat.le_refl _, fun s w Args R hA hr hf hl hR => callsIn_wide.2 ((hT s w Args hA hr).mono ?_)⟩
  rintro e w' ⟨rfl, hb⟩
  exact hR V s w' (hv s) (hr.below hb) (Step.below hb)
/-- A block of the abstract heap reads as some values, whatever its type. -/
noncomputable def readsRow (l : List AV) (b : Option Blk) : Bool :=
  match b with
  | some (.row _ z m c true false) => (match Nat.beq m (len l), cellsAt z m c m 0 with
      | true, some l' => eq1s l' l
      | _, _ => false)
  | _ => false
theorem readsRow_at {s : Sg} {H : Heap} {w : World} {l : List AV} {vs : List Value} {x : Nat} (hr : Rel P s H w) (hx : x < LIM) (hl : ∀ s, concL s l = some vs) (hv : ∀ v ∈ vs, v.oneCell' = true) (h : readsRow l (Q8.get H x) = true) :
    ∃ b t, s.blk x = some b ∧ w.heap[b]? = some (Obj.cells ⟨vs⟩ t (0, 0)) := by
  unfold readsRow at h
  split at h
  · rename_i t z m c hq
    split at h
    · rename_i l' h2 h3
      have h2 := Nat.eq_of_beq_eq_true h2
      rw [len_eq] at h2
      have h4 := eq1s_eq h
      subst h4
      obtain ⟨b, o, b1, b2, b3⟩ := hr.blk x _ hx hq
      have := sameG_row' (g := ⟨t, l', vs⟩) ⟨hl, hv⟩ rfl h2 h3 b3
      subst this
      exact ⟨b, t, b1, b2⟩
    · cases h
  · cases h
noncomputable def readsRows (H : Heap) (rs : List (Nat × List AV)) : Bool :=
  List.rec true (fun g _ ih => match readsRow g.2 (Q8.get H g.1) with | true => ih | false => false) rs
theorem readsRows_at {H : Heap} : ∀ {rs : List (Nat × List AV)}, readsRows H rs = true → ∀ g ∈ rs, readsRow g.2 (Q8.get H g.1) = true
  | [], _, g, hg => by cases hg
  | g' :: rs, h, g, hg => by
    have h : (match readsRow g'.2 (Q8.get H g'.1) with | true => readsRows H rs | false => false) = true := h
    split at h
    · rename_i h1
      rcases List.mem_cons.1 hg with rfl | hg
      · exact h1
      · exact readsRows_at h g hg
    · cases h
/-- Two oracles in one. -/
theorem orcOk_add {O : Orc} {f : FuncId} {g : List AV → Nat → Heap → VR} (hO : OrcOk P O) (h : ∀ args n H v n' H', g args n H = .ok v n' H' → FnGood P f args n H v n' H') : OrcOk P (fun x => match Nat.beq x f with | true => some g | false => O x) := by
  intro x g' hx
  simp only at hx
  split at hx
  · rename_i e
    have e : x = f := by simpa using e
    subst e
    injection hx with hx; subst hx
    exact h
  · exact hO x g' hx
end
end Go.Sy
namespace Go.Sy
open Go Go.RowKit
/-- The symbols of a small run: each stands for what another one stands for. -/
def Sg.part (gm : Nat → Option Nat) (s : Sg) : Sg := ⟨fun y => (gm y).bind s.blk, fun y => match gm y with | some x => s.cap x | none => 0⟩
section
variable {P : Program}
/-- What a small run owes: y: its symbol, x: the great run's. -/
structure Tell (P : Program) (gm : Nat → Option Nat) (n1 : Nat) (H Hs Hs1 : Heap) (y x : Nat) : Prop where
  at_ : gm y = some x
  lt : y < n1 ∧ x < LIM
  big : Q8.get H x ≠ none
  into : ∀ s o A, Q8.get H x = some A → BlkR P s x A o → ∃ B, Q8.get Hs y = some B ∧ BlkR P (s.part gm) y B o
  back : ∀ s s' o B, Q8.get Hs1 y = some B → (∀ z, z < n1 → s'.blk z = (s.part gm).blk z ∧ s'.cap z = (s.part gm).cap z) → BlkR P s' y B o → ∀ A, Q8.get H x = some A → BlkR P s x A o
  still : Q8.get Hs1 y ≠ none
theorem fnGood_tell {O : Orc} (hm : P.follows .mixedOrders = true) (hO : OrcOk P O) {fuel : Nat} {f : FuncId} {args args' : List AV} {n n1 n2 : Nat} {H Hs Hs1 : Heap} {v : AV} {V : Value} {gm : Nat → Option Nat} {ys : List (Nat × Nat)}
    (hglob : ∀ g, g < 64 → gm g = some g) (hgm : ∀ y x, gm y = some x → y < n1) (hn1 : n1 ≤ LIM) (hinj : ∀ y y' x, gm y = some x → gm y' = some x → y = y')
    (hys : ∀ p ∈ ys, Tell P gm n1 H Hs Hs1 p.1 p.2) (hHs : ∀ y, y < LIM → Q8.get Hs y ≠ none → ∃ p ∈ ys, p.1 = y)
    (hA : ∀ s, concL s args = concL (s.part gm) args') (hrun : (ev P O fuel).ef f args' n1 Hs = .ok v n2 Hs1) (hn2 : n2 ≤ LIM) (hv : ∀ s, v.conc s = some V) : FnGood P f args n H v n H := by
  refine ⟨Nat.le_refl _, fun s w Args R hA' hr hf hl hR => ?_⟩
  have h := (ev_ok hm hO fuel).2 _ _ _ _ _ _ _ hrun
  have hpb : ∀ y b, (s.part gm).blk y = some b → ∃ x, gm y = some x ∧ s.blk x = some b := fun y b hb => by
    simp only [Sg.part, Option.bind_eq_some_iff] at hb
    exact hb
  have hrel : Rel P (s.part gm) Hs w := by
    refine ⟨fun y b hb => ?_, fun g hg => ?_, fun y B hy hB => ?_, fun y y' b hy hy' h1 h2 h3 h4 => ?_⟩
    · obtain ⟨x, hx, _⟩ := hpb y b hb
      exact Nat.lt_of_lt_of_le (hgm y x hx) hn1
    · simp only [Sg.part, hglob g hg, Option.bind_some]
      exact hr.glob g hg
    · obtain ⟨p, hp, rfl⟩ := hHs y hy (by rw [hB]; exact fun e => by cases e)
      have ht := hys p hp
      obtain ⟨A, hAx⟩ := Option.ne_none_iff_exists'.1 ht.big
      obtain ⟨b, o, b1, b2, b3⟩ := hr.blk p.2 A ht.lt.2 hAx
      obtain ⟨B', hB', b4⟩ := ht.into s o A hAx b3
      rw [hB] at hB'
      injection hB' with hB'
      subst hB'
      exact ⟨b, o, by simp only [Sg.part, ht.at_, Option.bind_some]; exact b1, b2, b4⟩
    · obtain ⟨p, hp, rfl⟩ := hHs y hy h1
      obtain ⟨q, hq, rfl⟩ := hHs y' hy' h2
      obtain ⟨x, hx, hxb⟩ := hpb _ b h3
      obtain ⟨x', hx', hxb'⟩ := hpb _ b h4
      have tp := hys p hp
      have tq := hys q hq
      rw [tp.at_] at hx
      injection hx with hx
      rw [tq.at_] at hx'
      injection hx' with hx'
      subst hx hx'
      have e := hr.inj p.2 q.2 b tp.lt.2 tq.lt.2 tp.big tq.big hxb hxb'
      exact hinj p.1 q.1 p.2 tp.at_ (e ▸ tq.at_)
  have hfree : Free (s.part gm) n1 n2 := fun y h1 _ => by
    cases hq : (s.part gm).blk y with
    | none => rfl
    | some b =>
      obtain ⟨x, hx, _⟩ := hpb y b hq
      have := hgm y x hx
      omega
  refine h.2 (s.part gm) w Args R (by rw [← hA]; exact hA') hrel hfree hn2 (fun V' s' w' hv' hr' hs' => hR V' s w' (by rw [hv] at hv' ⊢; exact hv') ?_ ?_)
  · have hold : ∀ b, b < w.heap.size → (∀ p ∈ ys, s.blk p.2 ≠ some b) → w'.heap[b]? = w.heap[b]? := fun b hb hne => by
      refine hs'.frame b hb fun y hy h1 h2 => ?_
      obtain ⟨p, hp, rfl⟩ := hHs y hy h1
      obtain ⟨x, hx, hxb⟩ := hpb _ b h2
      rw [(hys p hp).at_] at hx
      injection hx with hx
      subst hx
      exact hne p hp hxb
    refine ⟨hr.lim, hr.glob, fun x A hx hAx => ?_, hr.inj⟩
    obtain ⟨b, o, b1, b2, b3⟩ := hr.blk x A hx hAx
    by_cases hin : ∃ p ∈ ys, p.2 = x
    · obtain ⟨p, hp, rfl⟩ := hin
      have ht := hys p hp
      obtain ⟨B, hB⟩ := Option.ne_none_iff_exists'.1 ht.still
      obtain ⟨b', o', c1, c2, c3⟩ := hr'.blk p.1 B (Nat.lt_of_lt_of_le ht.lt.1 hn1) hB
      have hoff := hs'.off p.1 (.inl ht.lt.1)
      rw [hoff.1] at c1
      simp only [Sg.part, ht.at_, Option.bind_some] at c1
      rw [b1] at c1
      injection c1 with c1
      subst c1
      exact ⟨b, o', b1, c2, ht.back s s' o' B hB (fun z hz => hs'.off z (.inl hz)) c3 A hAx⟩
    · refine ⟨b, o, b1, ?_, b3⟩
      rw [hold b (Array.getElem?_eq_some_iff.1 b2).1 (fun p hp e => hin ⟨p, hp, hr.inj p.2 x b (hys p hp).lt.2 hx (hys p hp).big (by rw [hAx]; exact fun e => by cases e) e b1⟩)]
      exact b2
  · refine ⟨fun _ _ => ⟨rfl, rfl⟩, hs'.size, fun b hb hne => ?_, fun y b hy h1 h2 _ => ⟨y, hy, h1, h2⟩, hs'.os, hs'.tape, hs'.output⟩
    refine hs'.frame b hb fun y hy h1 h2 => ?_
    obtain ⟨p, hp, rfl⟩ := hHs y hy h1
    obtain ⟨x, hx, hxb⟩ := hpb _ b h2
    rw [(hys p hp).at_] at hx
    injection hx with hx
    subst hx
    exact hne p.2 (hys p hp).lt.2 (hys p hp).big hxb
end
end Go.Sy
namespace Go.Sy
open Go Go.RowKit
section
variable {P : Program}
/-- The same cells, by two symbols. -/
theorem blkR_cells {s s' : Sg} {x x' : Nat} {t : TypeId} {m : Nat} {ex mk : Bool} {z z' : Nat → Option AV} {c c' : T AV} {l l' : List AV} {o : Obj} (h1 : cellsAt z m c m 0 = some l) (h2 : cellsAt z' m c' m 0 = some l')
    (hcap : ex = true ∨ s'.cap x' = s.cap x) (hl : concL s' l' = concL s l) (h : BlkR P s x (.row t z m c ex mk) o) : BlkR P s' x' (.row t z' m c' ex mk) o := by
  cases o with
  | cells a t' fz =>
    obtain ⟨k1, k2, k3, k4, k5⟩ := h
    refine ⟨k1, k2, fun i A' hA' => ?_, ?_, k5⟩
    · have hlt := cellAt_lt hA'
      obtain ⟨p1, _⟩ := (cellsAt_get h2).2 i hlt
      rw [Nat.zero_add, hA'] at p1
      obtain ⟨q1, q2⟩ := (cellsAt_get h1).2 i hlt
      rw [Nat.zero_add] at q1 q2
      obtain ⟨A, hA⟩ := Option.isSome_iff_exists.1 q2
      obtain ⟨V, v1, v2, v3⟩ := k3 i A hA
      refine ⟨V, ?_, v2, v3⟩
      rw [hA] at q1
      have key : ∀ (r : List AV) (r' : List AV) (u u' : Sg), concL u' r' = concL u r → r.length = r'.length → ∀ (j : Nat) (B B' : AV) (W : Value), r[j]? = some B → r'[j]? = some B' → B.conc u = some W → (concL u r).isSome → B'.conc u' = some W := by
        intro r
        induction r with
        | nil => intro r' u u' _ _ j B B' W h; simp at h
        | cons a r ih =>
          intro r' u u' he hln j B B' W hB hB' hW hsm
          cases r' with
          | nil => simp at hln
          | cons a' r' =>
            obtain ⟨vs, hvs⟩ := Option.isSome_iff_exists.1 hsm
            obtain ⟨y, ys, e1, e2, rfl⟩ := concL_cons.1 hvs
            rw [hvs] at he
            obtain ⟨y', ys', e1', e2', e3⟩ := concL_cons.1 he
            injection e3 with e3 e4
            subst e3 e4
            cases j with
            | zero =>
              simp only [List.getElem?_cons_zero, Option.some.injEq] at hB hB'
              subst hB hB'
              rw [e1] at hW
              rw [e1', hW]
            | succ j => exact ih r' u u' (by rw [e2', e2]) (by simpa using hln) j B B' W (by simpa using hB) (by simpa using hB') hW (by rw [e2]; rfl)
      have hsm : (concL s l).isSome := by
        have : ∀ (r : List AV), (∀ (j : Nat) (B : AV), r[j]? = some B → ∃ W, B.conc s = some W) → (concL s r).isSome := by
          intro r
          induction r with
          | nil => intro _; rfl
          | cons a r ih =>
            intro hr
            obtain ⟨W, hW⟩ := hr 0 a rfl
            obtain ⟨ws, hws⟩ := Option.isSome_iff_exists.1 (ih (fun j B hB => hr (j + 1) B (by simpa using hB)))
            rw [concL_cons.2 ⟨W, ws, hW, hws, rfl⟩]; rfl
        refine this l fun j B hB => ?_
        have hj : j < m := by have := (List.getElem?_eq_some_iff.1 hB).1; rw [(cellsAt_get h1).1] at this; exact this
        obtain ⟨r1, r2⟩ := (cellsAt_get h1).2 j hj
        rw [Nat.zero_add, hB] at r1
        obtain ⟨V', v1', _, _⟩ := k3 j B r1.symm
        exact ⟨V', v1'⟩
      exact key l l' s s' hl (by rw [(cellsAt_get h1).1, (cellsAt_get h2).1]) i A A' V q1 p1 v1 hsm
    · rcases hcap with h | h
      · subst h; exact k4
      · rw [h]; exact k4
  | _ => exact h.elim
theorem tell_row {gm : Nat → Option Nat} {n1 : Nat} {H Hs Hs1 : Heap} {y x : Nat} {t : TypeId} {m : Nat} {ex mk : Bool} {z z0 z1 : Nat → Option AV} {c c0 c1 : T AV} {l l' : List AV}
    (hg : gm y = some x) (hlt : y < n1 ∧ x < LIM) (hb : Q8.get H x = some (.row t z m c ex mk)) (hbl : cellsAt z m c m 0 = some l)
    (hs : Q8.get Hs y = some (.row t z0 m c0 ex mk)) (hsl : cellsAt z0 m c0 m 0 = some l')
    (h1 : Q8.get Hs1 y = some (.row t z1 m c1 ex mk)) (h1l : cellsAt z1 m c1 m 0 = some l')
    (hin : ∀ s, concL (s.part gm) l' = concL s l) (hback : ∀ s s' : Sg, (∀ w, w < n1 → s'.blk w = (s.part gm).blk w ∧ s'.cap w = (s.part gm).cap w) → concL s l = concL s' l') : Tell P gm n1 H Hs Hs1 y x where
  at_ := hg
  lt := hlt
  big := by rw [hb]; exact fun e => by cases e
  into s o A hA h := by
    rw [hb] at hA
    injection hA with hA
    subst hA
    exact ⟨_, hs, blkR_cells hbl hsl (.inr (by simp only [Sg.part, hg])) (hin s) h⟩
  back s s' o B hB hag h A hA := by
    rw [h1] at hB
    injection hB with hB
    subst hB
    rw [hb] at hA
    injection hA with hA
    subst hA
    exact blkR_cells h1l hbl (.inr (by rw [(hag y hlt.1).2]; simp only [Sg.part, hg])) (hback s s' hag) h
  still := by rw [h1]; exact fun e => by cases e
/-- A map. -/
theorem tell_map {gm : Nat → Option Nat} {n1 : Nat} {H Hs Hs1 : Heap} {y x cl : Nat} {es es' : List (AV × AV × Nat)}
    (hg : gm y = some x) (hlt : y < n1 ∧ x < LIM) (hb : Q8.get H x = some (.map es cl)) (hs : Q8.get Hs y = some (.map es' cl)) (h1 : Q8.get Hs1 y = some (.map es' cl))
    (hin : ∀ s fs, All2 (MapR s) es fs → All2 (MapR (s.part gm)) es' fs) (hback : ∀ s s' : Sg, (∀ w, w < n1 → s'.blk w = (s.part gm).blk w ∧ s'.cap w = (s.part gm).cap w) → ∀ fs, All2 (MapR s') es' fs → All2 (MapR s) es fs) : Tell P gm n1 H Hs Hs1 y x where
  at_ := hg
  lt := hlt
  big := by rw [hb]; exact fun e => by cases e
  into s o A hA h := by
    rw [hb] at hA
    injection hA with hA
    subst hA
    refine ⟨_, hs, ?_⟩
    cases o with
    | map a cl' => exact ⟨h.1, hin s _ h.2⟩
    | _ => exact h.elim
  back s s' o B hB hag h A hA := by
    rw [h1] at hB
    injection hB with hB
    subst hB
    rw [hb] at hA
    injection hA with hA
    subst hA
    cases o with
    | map a cl' => exact ⟨h.1, hback s s' hag _ h.2⟩
    | _ => exact h.elim
  still := by rw [h1]; exact fun e => by cases e
end
end Go.Sy
namespace Go.Sy
open Go Go.RowKit
/-- A block of a small heap. -/
inductive SB | row (t : TypeId) (l : List AV) (ex mk : Bool) | map (es : List (AV × AV × Nat)) (cl : Nat)
noncomputable def putB {β : Type} (bs : List (Nat × SB)) : Heap → (Heap → β) → β :=
  List.rec (motive := fun _ => Heap → (Heap → β) → β) (fun H k => k H)
    (fun g _ ih H k => match g.2 with
      | .row t l ex mk => putCells l .e 0 fun c => frc (len l) fun m => Q8.set (some (.row t (fun _ => none) m c ex mk)) H g.1 fun H => ih H k
      | .map es cl => Q8.set (some (.map es cl)) H g.1 fun H => ih H k) bs
noncomputable def eqB (a b : Bool) : Bool := match a with | true => b | false => (match b with | true => false | false => true)
noncomputable def eqEs (es fs : List (AV × AV × Nat)) : Bool :=
  List.rec (motive := fun _ => List (AV × AV × Nat) → Bool) (fun fs => match fs with | [] => true | _ => false)
    (fun e _ ih fs => match fs with | [] => false | f :: r => (match eq1 e.1 f.1, eq1 e.2.1 f.2.1, Nat.beq e.2.2 f.2.2 with | true, true, true => ih r | _, _, _ => false)) es fs
noncomputable def sameB (g : SB) (b : Option Blk) : Prop :=
  match g with
  | .row t l ex mk => (match b with
    | some (.row t' z m c ex' mk') => (match Nat.beq m (len l), cellsAt z m c m 0, eqB ex' ex, eqB mk' mk with
        | true, some l', true, true => (match eq1s l' l with | true => t' = t | false => False)
        | _, _, _, _ => False)
    | _ => False)
  | .map es cl => (match b with
    | some (.map es' cl') => (match eqEs es' es, Nat.beq cl' cl with | true, true => True | _, _ => False)
    | _ => False)
noncomputable def sameBs (H : Heap) (bs : List (Nat × SB)) : Prop := List.rec True (fun g _ ih => sameB g.2 (Q8.get H g.1) ∧ ih) bs
noncomputable def runB (P : Program) (O : Orc) (fuel : Nat) (f : FuncId) (args : List AV) (res : AV) (n0 : Nat) (bs : List (Nat × SB)) : Prop :=
  putB bs Q8.e fun H => match (ev P O fuel).ef f args n0 H with
    | .ok v n' H' => (match Nat.ble n' 65536 with | true => v = res ∧ sameBs H' bs | false => False)
    | .er _ => False
noncomputable def SB.blk : SB → Blk
  | .row t l ex mk => .row t (fun _ => none) l.length (T.e.puts l 0) ex mk
  | .map es cl => .map es cl
noncomputable def hB : List (Nat × SB) → Heap → Heap
  | [], H => H
  | g :: bs, H => hB bs (Q8.upd H g.1 (some g.2.blk))
theorem putB_k {β : Type} (bs : List (Nat × SB)) : ∀ (H : Heap) (k : Heap → β), putB bs H k = k (hB bs H) := by
  induction bs with
  | nil => intro H k; rfl
  | cons g bs ih =>
    intro H k
    obtain ⟨x, b⟩ := g
    cases b with
    | row t l ex mk =>
      show putCells l .e 0 (fun c => frc (len l) fun m => Q8.set (some (.row t (fun _ => none) m c ex mk)) H x fun H => putB bs H k) = _
      rw [putCells_k, frc_eq, Q8.set_k, ih, len_eq]
      rfl
    | map es cl =>
      show Q8.set (some (.map es cl)) H x (fun H => putB bs H k) = _
      rw [Q8.set_k, ih]
      rfl
theorem get_hB : ∀ (bs : List (Nat × SB)) (H : Heap) (x : Nat), (∀ g ∈ bs, g.1 < LIM) → (bs.map Prod.fst).Nodup → x < LIM →
    (∀ g ∈ bs, g.1 = x → Q8.get (hB bs H) x = some g.2.blk) ∧ ((∀ g ∈ bs, g.1 ≠ x) → Q8.get (hB bs H) x = Q8.get H x)
  | [], H, x, _, _, _ => ⟨(fun g hg => by cases hg), fun _ => rfl⟩
  | g :: bs, H, x, hl, hn, hx => by
    have hl1 := hl g List.mem_cons_self
    rw [List.map_cons, List.nodup_cons] at hn
    have ih := get_hB bs (Q8.upd H g.1 (some g.2.blk)) x (fun g' hg => hl g' (List.mem_cons_of_mem _ hg)) hn.2 hx
    refine ⟨fun g' hg' he => ?_, fun hne => ?_⟩
    · rcases List.mem_cons.1 hg' with rfl | hg'
      · have := ih.2 (fun q hq e => hn.1 (List.mem_map.2 ⟨q, hq, by rw [e, he]⟩))
        show Q8.get (hB bs (Q8.upd H g'.1 (some g'.2.blk))) x = _
        rw [this, Q8.get_upd _ _ _ _ hl1 hx, if_pos he]
      · exact ih.1 g' hg' he
    · have := ih.2 (fun q hq => hne q (List.mem_cons_of_mem _ hq))
      show Q8.get (hB bs (Q8.upd H g.1 (some g.2.blk))) x = _
      rw [this, Q8.get_upd _ _ _ _ hl1 hx, if_neg (hne g List.mem_cons_self)]
theorem sameBs_at {H : Heap} : ∀ {bs : List (Nat × SB)}, sameBs H bs → ∀ g ∈ bs, sameB g.2 (Q8.get H g.1)
  | [], _, g, hg => by cases hg
  | g' :: bs, h, g, hg => by
    have h : sameB g'.2 (Q8.get H g'.1) ∧ sameBs H bs := h
    rcases List.mem_cons.1 hg with rfl | hg
    · exact h.1
    · exact sameBs_at h.2 g hg
theorem eqB_eq {a b : Bool} (h : eqB a b = true) : a = b := by cases a <;> cases b <;> first | rfl | cases h
theorem eqEs_eq : ∀ {es fs : List (AV × AV × Nat)}, eqEs es fs = true → es = fs
  | [], [], _ => rfl
  | [], _ :: _, h => by cases h
  | e :: es, [], h => by cases h
  | e :: es, f :: fs, h => by
    have h : (match eq1 e.1 f.1, eq1 e.2.1 f.2.1, Nat.beq e.2.2 f.2.2 with | true, true, true => eqEs es fs | _, _, _ => false) = true := h
    split at h
    · rename_i h1 h2 h3
      have e1 : e = f := by
        have a1 := eq1s_eq (l := [e.1]) (m := [f.1]) (by show (match eq1 e.1 f.1 with | true => eq1s [] [] | false => false) = true; rw [h1]; rfl)
        have a2 := eq1s_eq (l := [e.2.1]) (m := [f.2.1]) (by show (match eq1 e.2.1 f.2.1 with | true => eq1s [] [] | false => false) = true; rw [h2]; rfl)
        injection a1 with a1
        injection a2 with a2
        exact Prod.ext a1 (Prod.ext a2 (Nat.eq_of_beq_eq_true h3))
      rw [e1, eqEs_eq h]
    · cases h
/-- The cells of a small heap's row. -/
theorem sb_cells (l : List AV) : cellsAt (fun _ => none) l.length (T.e.puts l 0) l.length 0 = some l := by
  have key : ∀ (k o : Nat), o + k = l.length → cellsAt (fun _ => none) l.length (T.e.puts l 0) k o = some (l.drop o) := by
    intro k
    induction k with
    | zero => intro o ho; rw [List.drop_of_length_le (by omega)]; rfl
    | succ k ih =>
      intro o ho
      rw [cellsAt_succ, cellAt_eq, if_pos (by omega), T.get_puts, if_pos (by omega), Nat.sub_zero, List.getElem?_eq_getElem (by omega)]
      dsimp only
      rw [ih (o + 1) (by omega), List.drop_eq_getElem_cons (by omega : o < l.length)]
  exact key l.length 0 (by omega)
end Go.Sy
namespace Go.Sy
open Go Go.RowKit
def AV.ren (gm : Nat → Option Nat) : AV → AV
  | .p x o => .p ((gm x).getD 0) o
  | .sl x o n c => .sl ((gm x).getD 0) o n c
  | .m x => .m ((gm x).getD 0)
  | a => a
def AV.flat (n0 : Nat) (gm : Nat → Option Nat) : AV → Prop
  | .b _ => True | .i _ _ => True | .s _ => True | .p0 => True | .sl0 => True | .m0 => True
  | .p x _ => x < n0 ∧ (gm x).isSome
  | .sl x _ _ _ => x < n0 ∧ (gm x).isSome
  | .m x => x < n0 ∧ (gm x).isSome
  | _ => False
def Agree (n0 : Nat) (s' s : Sg) : Prop := ∀ z, z < n0 → s'.blk z = s.blk z ∧ s'.cap z = s.cap z
theorem ren_conc {n0 : Nat} {gm : Nat → Option Nat} {A : AV} (h : A.flat n0 gm) (s : Sg) : (A.ren gm).conc s = A.conc (s.part gm) := by
  cases A with
  | sl x o n c =>
    obtain ⟨_, h2⟩ := h
    obtain ⟨y, hy⟩ := Option.isSome_iff_exists.1 h2
    cases c <;> simp [AV.ren, AV.conc, Sg.part, hy, Cap.fits, Cap.val]
  | p x o =>
    obtain ⟨_, h2⟩ := h
    obtain ⟨y, hy⟩ := Option.isSome_iff_exists.1 h2
    simp [AV.ren, AV.conc, Sg.part, hy]
  | m x =>
    obtain ⟨_, h2⟩ := h
    obtain ⟨y, hy⟩ := Option.isSome_iff_exists.1 h2
    simp [AV.ren, AV.conc, Sg.part, hy]
  | b _ => rfl
  | i _ _ => rfl
  | s _ => rfl
  | p0 => rfl
  | sl0 => rfl
  | m0 => rfl
  | _ => exact h.elim
theorem agree_conc {n0 : Nat} {gm : Nat → Option Nat} {A : AV} (h : A.flat n0 gm) {s s' : Sg} (ha : Agree n0 s' s) : A.conc s' = A.conc s := by
  cases A with
  | sl x o n c =>
    obtain ⟨h1, _⟩ := h
    cases c <;> simp [AV.conc, (ha _ h1).1, (ha _ h1).2, Cap.fits, Cap.val]
  | p x o => simp [AV.conc, (ha _ h.1).1]
  | m x => simp [AV.conc, (ha _ h.1).1]
  | b _ => rfl
  | i _ _ => rfl
  | s _ => rfl
  | p0 => rfl
  | sl0 => rfl
  | m0 => rfl
  | _ => exact h.elim
theorem ren_concL {n0 : Nat} {gm : Nat → Option Nat} (s : Sg) : ∀ {l : List AV}, (∀ A ∈ l, A.flat n0 gm) → concL s (l.map (AV.ren gm)) = concL (s.part gm) l
  | [], _ => rfl
  | a :: l, h => by
    simp only [List.map_cons, concL]
    rw [ren_conc (h a List.mem_cons_self) s, ren_concL s (fun A hA => h A (List.mem_cons_of_mem _ hA))]
theorem agree_concL {n0 : Nat} {gm : Nat → Option Nat} {s s' : Sg} (ha : Agree n0 s' s) : ∀ {l : List AV}, (∀ A ∈ l, A.flat n0 gm) → concL s' l = concL s l
  | [], _ => rfl
  | a :: l, h => by
    simp only [concL]
    rw [agree_conc (h a List.mem_cons_self) ha, agree_concL ha (fun A hA => h A (List.mem_cons_of_mem _ hA))]
def SB.flat (n0 : Nat) (gm : Nat → Option Nat) : SB → Prop
  | .row _ l _ _ => ∀ A ∈ l, A.flat n0 gm
  | .map es _ => ∀ e ∈ es, e.1.flat n0 gm ∧ e.2.1.flat n0 gm
/-- The block is there in the great heap. -/
def SB.there (gm : Nat → Option Nat) (H : Heap) (x : Nat) : SB → Prop
  | .row t l ex mk => ∃ z c, Q8.get H x = some (.row t z l.length c ex mk) ∧ cellsAt z l.length c l.length 0 = some (l.map (AV.ren gm))
  | .map es cl => Q8.get H x = some (.map (es.map fun e => (e.1.ren gm, e.2.1.ren gm, e.2.2)) cl)
section
variable {P : Program}
theorem tell_run {O : Orc} (hm : P.follows .mixedOrders = true) (hO : OrcOk P O) {fuel : Nat} {f : FuncId} {args args' : List AV} {n n0 : Nat} {H : Heap} {v : AV} {V : Value} {gm : Nat → Option Nat} {bs : List (Nat × SB)}
    (hrun : runB P O fuel f args' v n0 bs) (hn0 : n0 ≤ LIM) (hglob : ∀ g, g < 64 → gm g = some g) (hgm : ∀ y x, gm y = some x → y < n0) (hinj : ∀ y y' x, gm y = some x → gm y' = some x → y = y')
    (hnd : (bs.map Prod.fst).Nodup) (hfl : ∀ p ∈ bs, p.2.flat n0 gm) (hth : ∀ p ∈ bs, ∃ x, gm p.1 = some x ∧ x < LIM ∧ p.2.there gm H x)
    (hA : ∀ s, concL s args = concL (s.part gm) args') (hv : ∀ s, v.conc s = some V) : FnGood P f args n H v n H := by
  unfold runB at hrun
  rw [putB_k] at hrun
  have hlt : ∀ p ∈ bs, p.1 < n0 := fun p hp => by
    obtain ⟨x, hx, _⟩ := hth p hp
    exact hgm _ _ hx
  have hget := fun y hy => get_hB bs Q8.e y (fun p hp => Nat.lt_of_lt_of_le (hlt p hp) hn0) hnd hy
  split at hrun
  · rename_i v' n2 Hs1 hev
    split at hrun
    · rename_i h2
      obtain ⟨h1, hsame⟩ := hrun
      subst h1
      refine fnGood_tell hm hO (gm := gm) (ys := bs.map fun p => (p.1, (gm p.1).getD 0)) hglob hgm hn0 hinj (fun q hq => ?_) (fun y hy hne => ?_) hA hev (Nat.le_of_ble_eq_true h2) hv
      · obtain ⟨p, hp, rfl⟩ := List.mem_map.1 hq
        obtain ⟨x, hx, hxl, hbig⟩ := hth p hp
        have hs := (hget p.1 (Nat.lt_of_lt_of_le (hlt p hp) hn0)).1 p hp rfl
        have hsm := sameBs_at hsame p hp
        have hf := hfl p hp
        have hp1 := hlt p hp
        dsimp only
        rw [hx, Option.getD_some]
        obtain ⟨y, b⟩ := p
        cases b with
        | row t l ex mk =>
          obtain ⟨z, c, hb1, hb2⟩ := hbig
          unfold sameB at hsm
          dsimp only at hsm
          split at hsm
          · rename_i t' z1 m1 c1 ex1 mk1 hq1
            split at hsm
            · rename_i l' k1 k2 k3 k4
              split at hsm
              · rename_i k5
                have k1 := Nat.eq_of_beq_eq_true k1
                rw [len_eq] at k1
                have k3 := eqB_eq k3
                have k4 := eqB_eq k4
                have k5 := eq1s_eq k5
                subst k1 k3 k4 k5 hsm
                exact tell_row hx ⟨hp1, hxl⟩ hb1 hb2 hs (sb_cells l') hq1 k2 (fun s => (ren_concL s hf).symm) (fun s s' hag => (ren_concL s hf).trans (agree_concL hag hf).symm)
              · cases hsm
            · cases hsm
          · cases hsm
        | map es cl =>
          unfold sameB at hsm
          dsimp only at hsm
          split at hsm
          · rename_i es1 cl1 hq1
            split at hsm
            · rename_i k1 k2
              have k1 := eqEs_eq k1
              have k2 := Nat.eq_of_beq_eq_true k2
              subst k1 k2
              have tr : ∀ (es : List (AV × AV × Nat)), (∀ e ∈ es, e.1.flat n0 gm ∧ e.2.1.flat n0 gm) → ∀ (s : Sg) (fs : List MapEntry), All2 (MapR s) (es.map fun e => (e.1.ren gm, e.2.1.ren gm, e.2.2)) fs ↔ All2 (MapR (s.part gm)) es fs := by
                intro es
                induction es with
                | nil => intro _ s fs; cases fs <;> exact Iff.rfl
                | cons e es ih =>
                  intro he s fs
                  cases fs with
                  | nil => exact Iff.rfl
                  | cons f fs =>
                    obtain ⟨f1, f2⟩ := he e List.mem_cons_self
                    show (MapR s (e.1.ren gm, e.2.1.ren gm, e.2.2) f ∧ All2 (MapR s) (es.map _) fs) ↔ (MapR (s.part gm) e f ∧ All2 (MapR (s.part gm)) es fs)
                    rw [ih (fun e' h' => he e' (List.mem_cons_of_mem _ h')) s fs]
                    simp only [MapR, ren_conc f1 s, ren_conc f2 s]
              have ag : ∀ (es : List (AV × AV × Nat)), (∀ e ∈ es, e.1.flat n0 gm ∧ e.2.1.flat n0 gm) → ∀ (s s' : Sg), Agree n0 s' s → ∀ (fs : List MapEntry), All2 (MapR s') es fs → All2 (MapR s) es fs := by
                intro es
                induction es with
                | nil => intro _ s s' _ fs; cases fs <;> exact id
                | cons e es ih =>
                  intro he s s' ha fs h
                  cases fs with
                  | nil => exact h
                  | cons f fs =>
                    obtain ⟨f1, f2⟩ := he e List.mem_cons_self
                    obtain ⟨⟨m1, m2, m3⟩, h2⟩ := h
                    exact ⟨⟨by rw [← agree_conc f1 ha]; exact m1, by rw [← agree_conc f2 ha]; exact m2, m3⟩, ih (fun e' h' => he e' (List.mem_cons_of_mem _ h')) s s' ha fs h2⟩
              exact tell_map hx ⟨hp1, hxl⟩ hbig hs hq1 (fun s fs h => (tr _ hf s fs).1 h) (fun s s' hag fs h => (tr _ hf s fs).2 (ag _ hf _ _ hag fs h))
            · cases hsm
          · cases hsm
      · by_cases hin : ∃ p ∈ bs, p.1 = y
        · obtain ⟨p, hp, rfl⟩ := hin
          exact ⟨_, List.mem_map.2 ⟨p, hp, rfl⟩, rfl⟩
        · exfalso
          apply hne
          rw [(hget y hy).2 (fun p hp e => hin ⟨p, hp, e⟩), Q8.get_e]
    · cases hrun
  · cases hrun
end
end Go.Sy
namespace Go.Sy
open Go Go.RowKit
noncomputable def rowIs (l : List AV) (ex mk : Bool) (b : Option Blk) : Bool :=
  match b with
  | some (.row _ z m c ex' mk') => (match Nat.beq m (len l), cellsAt z m c m 0, eqB ex' ex, eqB mk' mk with
      | true, some l', true, true => eq1s l' l
      | _, _, _, _ => false)
  | _ => false
noncomputable def mapIs (es : List (AV × AV × Nat)) (cl : Nat) (b : Option Blk) : Bool :=
  match b with
  | some (.map es' cl') => (match eqEs es' es with | true => Nat.beq cl' cl | false => false)
  | _ => false
theorem rowIs_at {l : List AV} {ex mk : Bool} {H : Heap} {x : Nat} (h : rowIs l ex mk (Q8.get H x) = true) : ∃ t z c, Q8.get H x = some (.row t z l.length c ex mk) ∧ cellsAt z l.length c l.length 0 = some l := by
  unfold rowIs at h
  split at h
  · rename_i t z m c ex' mk' hq
    split at h
    · rename_i l' k1 k2 k3 k4
      have k1 := Nat.eq_of_beq_eq_true k1
      rw [len_eq] at k1
      have k3 := eqB_eq k3
      have k4 := eqB_eq k4
      have k5 := eq1s_eq h
      subst k1 k3 k4 k5
      exact ⟨t, z, c, hq, k2⟩
    · cases h
  · cases h
theorem mapIs_at {es : List (AV × AV × Nat)} {cl : Nat} {H : Heap} {x : Nat} (h : mapIs es cl (Q8.get H x) = true) : Q8.get H x = some (.map es cl) := by
  unfold mapIs at h
  split at h
  · rename_i es' cl' hq
    split at h
    · rename_i k1
      have k1 := eqEs_eq k1
      have k2 := Nat.eq_of_beq_eq_true h
      subst k1 k2
      exact hq
    · cases h
  · cases h
/-- All of some tests. -/
noncomputable def allB (l : List Bool) : Bool := List.rec true (fun a _ ih => match a with | true => ih | false => false) l
theorem allB_cons {a : Bool} {l : List Bool} (h : allB (a :: l) = true) : a = true ∧ allB l = true := by
  cases a with
  | false => exact absurd (show (false : Bool) = true from h) (by decide)
  | true => exact ⟨rfl, h⟩
noncomputable def inR (x : Nat) : Bool := match Nat.ble 64 x with | true => Nat.blt x 65536 | false => false
theorem inR_at {x : Nat} (h : inR x = true) : 64 ≤ x ∧ x < LIM := by
  unfold inR at h
  split at h
  · rename_i h1
    exact ⟨Nat.le_of_ble_eq_true h1, Nat.le_of_ble_eq_true h⟩
  · cases h
noncomputable def neB (x y : Nat) : Bool := match Nat.beq x y with | true => false | false => true
theorem neB_at {x y : Nat} (h : neB x y = true) : x ≠ y := by
  unfold neB at h
  split at h
  · cases h
  · rename_i h1
    intro e
    subst e
    simp at h1
/-- Three symbols told of. -/
def gm3 (x y b : Nat) (z : Nat) : Option Nat := if z < 64 then some z else if z = 64 then some x else if z = 65 then some y else if z = 66 then some b else none
theorem gm3_inj {x y b : Nat} (hx : 64 ≤ x) (hy : 64 ≤ y) (hb : 64 ≤ b) (h1 : x ≠ y) (h2 : x ≠ b) (h3 : y ≠ b) (z z' w : Nat) (h : gm3 x y b z = some w) (h' : gm3 x y b z' = some w) : z = z' := by
  unfold gm3 at h h'
  split at h <;> split at h' <;> (try split at h) <;> (try split at h') <;> (try split at h) <;> (try split at h') <;> (try split at h) <;> (try split at h') <;> simp_all <;> omega
theorem gm3_lt {x y b n0 : Nat} (hn : 67 ≤ n0) (z w : Nat) (h : gm3 x y b z = some w) : z < n0 := by
  unfold gm3 at h
  split at h
  · omega
  · split at h
    · omega
    · split at h
      · omega
      · split at h
        · omega
        · cases h
end Go.Sy

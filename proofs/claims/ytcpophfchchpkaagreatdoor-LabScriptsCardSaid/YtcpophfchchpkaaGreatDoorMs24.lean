/- LbP, LbQ, LbS, LbM -/
import Derived.Test.YtcpophfchchpkaaGreatDoorMs22
import Derived.Test.YtcpophfchchpkaaGreatDoorMs23
import Derived.Test.YtcpophfchchpkaaGreatDoorMs14
import Derived.Test.YtcpophfchchpkaaGreatDoorMs16
import Derived.Test.YtcpophfchchpkaaGreatDoorMs17
import Derived.Test.YtcpophfchchpkaaGreatDoorMs18
import Derived.Test.YtcpophfchchpkaaGreatDoorMs19
import Derived.Test.YtcpophfchchpkaaGreatDoorMs20
import Derived.Test.YtcpophfchchpkaaGreatDoorMs21
import Derived.Test.YtcpophfchchpkaaGreatDoorMs15
import Derived.Test.YtcpophfchchpkaaGreatDoorProg
import Derived.Test.YtcpophfchchpkaaGreatDoorMs13
namespace Go.Proofs.YtcpophfchchpkaaGreatDoor
open Go Go.RowKit Go.Sy
theorem follows51 : Tryz.prog.follows .mixedOrders = true := by kernel_rfl
def kindsL : List AV := kindsN.map fun n => .i .i64 (.ofNat n)
def bru64L : List AV := bruijnN.map fun n => .i .u8 (.ofNat n)
noncomputable def glIs (H : Heap) : Bool := match rowIs kindsL true false (Q8.get H 0) with
  | true => rowIs bru64L true false (Q8.get H 1)
  | false => false
noncomputable def labIs (x y b : Nat) (H : Heap) : Bool := allB [inR x, inR y, inR b, neB x y, neB x b, neB y b, glIs H, rowIs [.m y] true false (Q8.get H x), mapIs [(.s [103], .sl b 0 10 (.u 0), 0)] 1 (Q8.get H y), rowIs scrB false true (Q8.get H b)]
/-- The lab's map, the script's block. -/
noncomputable def labAt (H : Heap) (x : Nat) : Option (Nat × Nat) := match Q8.get H x with
  | some (.row _ z m c _ _) => (match cellAt z m c 0 with
      | some (.m y) => (match Q8.get H y with
          | some (.map (e :: _) _) => (match e.2.1 with | .sl b _ _ _ => some (y, b) | _ => none)
          | _ => none)
      | _ => none)
  | _ => none
noncomputable def labO (res : AV) (args : List AV) (n : Nat) (H : Heap) : VR := match args with
  | .p x o :: rest => (match Nat.beq o 0, eqV (.tup rest) (.tup [.s [103], cfg1 100 0]), labAt H x with
      | true, true, some (y, b) => (match labIs x y b H with | true => .ok res n H | false => .er [420])
      | _, _, _ => .er [421])
  | _ => .er [422]
theorem ground_flat {n0 : Nat} {gm : Nat → Option Nat} {k : IntKind} (l : List Nat) : ∀ A ∈ (l.map fun n => AV.i k (.ofNat n)), A.flat n0 gm := by
  intro A hA
  obtain ⟨n, _, rfl⟩ := List.mem_map.1 hA
  trivial
theorem ground_ren {gm : Nat → Option Nat} {k : IntKind} (l : List Nat) : (l.map fun n => AV.i k (.ofNat n)).map (AV.ren gm) = l.map fun n => AV.i k (.ofNat n) := by
  rw [List.map_map]; rfl
/-- Check and Compact, from their runs. -/
theorem labO_good (f : FuncId) (res : AV) (V : Value) (hv : ∀ s, res.conc s = some V)
    (hrun : ∀ t0 t1 tl tb : TypeId, runB Tryz.prog orcL 100000 f [.p 64 0, .s [103], cfg1 100 0] res 67 (glB t0 t1 ++ labB tl tb))
    (args : List AV) (n : Nat) (H : Heap) (v : AV) (n' : Nat) (H' : Heap) (h : labO res args n H = .ok v n' H') : FnGood Tryz.prog f args n H v n' H' := by
  unfold labO at h
  split at h
  · rename_i x o rest
    split at h
    · rename_i y b h1 h2 h3
      split at h
      · rename_i h4
        injection h with e1 e2 e3
        subst e1 e2 e3
        have h1 := Nat.eq_of_beq_eq_true h1
        subst h1
        have h2 := eqV_eq h2
        injection h2 with h2
        subst h2
        unfold labIs at h4
        obtain ⟨a1, h4⟩ := allB_cons h4
        obtain ⟨a2, h4⟩ := allB_cons h4
        obtain ⟨a3, h4⟩ := allB_cons h4
        obtain ⟨a4, h4⟩ := allB_cons h4
        obtain ⟨a5, h4⟩ := allB_cons h4
        obtain ⟨a6, h4⟩ := allB_cons h4
        obtain ⟨a7, h4⟩ := allB_cons h4
        obtain ⟨a8, h4⟩ := allB_cons h4
        obtain ⟨a9, h4⟩ := allB_cons h4
        obtain ⟨a10, _⟩ := allB_cons h4
        have b1 := inR_at a1
        have b2 := inR_at a2
        have b3 := inR_at a3
        obtain ⟨tl, zl, cl, l1, l2⟩ := rowIs_at a8
        have m1 := mapIs_at a9
        obtain ⟨tb, zb, cb, s1, s2⟩ := rowIs_at a10
        obtain ⟨t0, z0, c0, g1, g2, t1, z1, c1, g3, g4⟩ : ∃ t0 z0 c0, Q8.get H 0 = some (.row t0 z0 kindsL.length c0 true false) ∧ cellsAt z0 kindsL.length c0 kindsL.length 0 = some kindsL ∧ ∃ t1 z1 c1, Q8.get H 1 = some (.row t1 z1 bru64L.length c1 true false) ∧ cellsAt z1 bru64L.length c1 bru64L.length 0 = some bru64L := by
          unfold glIs at a7
          split at a7
          · rename_i hk
            obtain ⟨t0, z0, c0, g1, g2⟩ := rowIs_at hk
            obtain ⟨t1, z1, c1, g3, g4⟩ := rowIs_at a7
            exact ⟨t0, z0, c0, g1, g2, t1, z1, c1, g3, g4⟩
          · cases a7
        have hL : (67 : Nat) ≤ LIM := by decide
        have q0 : gm3 x y b 64 = some x := rfl
        have q1 : gm3 x y b 65 = some y := rfl
        have q2 : gm3 x y b 66 = some b := rfl
        have r0 : gm3 x y b 0 = some 0 := rfl
        have r1 : gm3 x y b 1 = some 1 := rfl
        refine tell_run follows51 orcL_ok (gm := gm3 x y b) (hrun t0 t1 tl tb) hL (fun g hg => by unfold gm3; rw [if_pos hg]) (fun z w hw => gm3_lt (Nat.le_refl _) z w hw) (gm3_inj b1.1 b2.1 b3.1 (neB_at a4) (neB_at a5) (neB_at a6)) ?_ (fun p hp => ?_) (fun p hp => ?_) (fun s => ?_) hv
        · simp [glB, labB]
        · simp only [glB, labB, List.cons_append, List.nil_append, List.mem_cons, List.not_mem_nil, or_false] at hp
          rcases hp with rfl | rfl | rfl | rfl | rfl
          · exact ground_flat _
          · exact ground_flat _
          · intro A hA
            rw [List.mem_singleton.1 hA]
            exact ⟨by decide, by rw [q1]; rfl⟩
          · intro e he
            rw [List.mem_singleton.1 he]
            exact ⟨trivial, by decide, by rw [q2]; rfl⟩
          · exact ground_flat _
        · simp only [glB, labB, List.cons_append, List.nil_append, List.mem_cons, List.not_mem_nil, or_false] at hp
          rcases hp with rfl | rfl | rfl | rfl | rfl
          · exact ⟨_, r0, by decide, z0, c0, g1, by rw [ground_ren]; exact g2⟩
          · exact ⟨_, r1, by decide, z1, c1, g3, by rw [ground_ren]; exact g4⟩
          · exact ⟨x, q0, b1.2, zl, cl, l1, l2⟩
          · exact ⟨y, q1, b2.2, m1⟩
          · exact ⟨b, q2, b3.2, zb, cb, s1, by rw [show scrB.map (AV.ren (gm3 x y b)) = scrB from ground_ren _]; exact s2⟩
        · have hp : (AV.p x 0).conc s = (AV.p 64 0).conc (s.part (gm3 x y b)) := by simp [AV.conc, Sg.part, q0]
          simp only [concL, hp]
          rfl
      · cases h
    · cases h
  · cases h
theorem check_good : ∀ args n H v n' H', labO chkR args n H = .ok v n' H' → FnGood Tryz.prog 18 args n H v n' H' :=
  labO_good _ chkR (.tuple #[.agg #[.int .i64 (-1), .int .i64 0], .int .i64 0]) (fun s => by simp [chkR, AV.conc, concL, Value.oneCell']) (fun t0 t1 tl tb => Eq.mpr (lab_check t0 t1 tl tb) ⟨rfl, rfl, rfl, rfl, trivial, rfl, trivial⟩)
theorem compact_good : ∀ args n H v n' H', labO (rI (.negSucc 0)) args n H = .ok v n' H' → FnGood Tryz.prog 36 args n H v n' H' :=
  labO_good _ (rI (.negSucc 0)) (.tuple #[.int .i64 (-1), .int .i64 0]) (fun s => by simp [rI, AV.conc, concL]) (fun t0 t1 tl tb => Eq.mpr (lab_compact t0 t1 tl tb) ⟨rfl, rfl, rfl, rfl, trivial, rfl, trivial⟩)
end Go.Proofs.YtcpophfchchpkaaGreatDoor
namespace Go.Proofs.YtcpophfchchpkaaGreatDoor
open Go Go.RowKit Go.Sy
def gm2 (x y : Nat) (z : Nat) : Option Nat := if z < 64 then some z else if z = 64 then some x else if z = 65 then some y else none
def gm1 (x : Nat) (z : Nat) : Option Nat := if z < 64 then some z else if z = 64 then some x else none
theorem gm2_inj {x y : Nat} (hx : 64 ≤ x) (hy : 64 ≤ y) (h1 : x ≠ y) (z z' w : Nat) (h : gm2 x y z = some w) (h' : gm2 x y z' = some w) : z = z' := by
  unfold gm2 at h h'
  split at h <;> split at h' <;> (try split at h) <;> (try split at h') <;> (try split at h) <;> (try split at h') <;> simp_all <;> omega
theorem gm2_lt {x y : Nat} (z w : Nat) (h : gm2 x y z = some w) : z < 66 := by
  unfold gm2 at h
  split at h
  · omega
  · split at h
    · omega
    · split at h
      · omega
      · cases h
theorem gm1_inj {x : Nat} (hx : 64 ≤ x) (z z' w : Nat) (h : gm1 x z = some w) (h' : gm1 x z' = some w) : z = z' := by
  unfold gm1 at h h'
  split at h <;> split at h' <;> (try split at h) <;> (try split at h') <;> simp_all <;> omega
theorem gm1_lt {x : Nat} (z w : Nat) (h : gm1 x z = some w) : z < 65 := by
  unfold gm1 at h
  split at h
  · omega
  · split at h
    · omega
    · cases h
noncomputable def caseIs (m : Nat) (l : List AV) (c2 : AV) (x y n : Nat) (rest : List AV) (H : Heap) : Bool :=
  allB [Nat.beq n m, eqV (.tup rest) (.tup [cfg1 100 0, c2]), inR x, inR y, neB x y, glIs H, rowIs (l.map (AV.ren (gm2 x y))) false false (Q8.get H x), rowIs [] true true (Q8.get H y)]
noncomputable def getIs (x n : Nat) (rest : List AV) (H : Heap) : Bool :=
  allB [Nat.beq n 1, eqV (.tup rest) (.tup [cfg1 100 0, cfg1 48 0]), inR x, glIs H, rowIs opGet false false (Q8.get H x)]
noncomputable def valAt (H : Heap) (x : Nat) : Option Nat := match Q8.get H x with
  | some (.row _ z m c _ _) => (match cellAt z m c 12 with
      | some (.sl y _ _ _) => some y
      | _ => (match cellAt z m c 3 with
          | some (.sl y _ _ _) => some y
          | _ => none))
  | _ => none
noncomputable def difO (args : List AV) (n : Nat) (H : Heap) : VR := match args with
  | .sl x o k (.u u) :: rest => (match Nat.beq o 0, Nat.beq u 0, valAt H x with
      | true, true, some y => (match caseIs 3 (opGet ++ (opSet ++ opGet)) (cfg1 100 7) x y k rest H with
          | true => .ok (rI (.negSucc 0)) n H
          | false => (match caseIs 3 (opGet ++ (opSet ++ opGet)) (cfg1 48 0) x y k rest H with
              | true => .ok (rI (.ofNat 1)) n H
              | false => (match caseIs 2 (opSet ++ opGet) (cfg1 48 0) x y k rest H with
                  | true => .ok (rI (.ofNat 0)) n H
                  | false => (match caseIs 1 opSet (cfg1 48 0) x y k rest H with
                      | true => .ok (rI (.ofNat 0)) n H
                      | false => .er [430]))))
      | true, true, none => (match getIs x k rest H with
          | true => .ok (rI (.negSucc 0)) n H
          | false => .er [431])
      | _, _, _ => .er [432])
  | .sl0 :: rest => (match eqV (.tup rest) (.tup [cfg1 100 0, cfg1 48 0]), glIs H with
      | true, true => .ok (rI (.negSucc 0)) n H
      | _, _ => .er [433])
  | _ => .er [434]
theorem glIs_at {H : Heap} (h : glIs H = true) : ∃ t0 z0 c0, Q8.get H 0 = some (.row t0 z0 kindsL.length c0 true false) ∧ cellsAt z0 kindsL.length c0 kindsL.length 0 = some kindsL ∧ ∃ t1 z1 c1, Q8.get H 1 = some (.row t1 z1 bru64L.length c1 true false) ∧ cellsAt z1 bru64L.length c1 bru64L.length 0 = some bru64L := by
  unfold glIs at h
  split at h
  · rename_i hk
    obtain ⟨t0, z0, c0, g1, g2⟩ := rowIs_at hk
    obtain ⟨t1, z1, c1, g3, g4⟩ := rowIs_at h
    exact ⟨t0, z0, c0, g1, g2, t1, z1, c1, g3, g4⟩
  · cases h
theorem rI_conc (z : Int) (s : Sg) : (rI z).conc s = some (.tuple #[.int .i64 z, .int .i64 0]) := by simp [rI, AV.conc, concL]
/-- A list with a set. -/
theorem case_good {m : Nat} {l : List AV} {c2 : AV} {z : Int} {x y k n : Nat} {rest : List AV} {H : Heap} (hfl : ∀ A ∈ l, A.flat 66 (gm2 x y)) (hc2 : ∀ s s' : Sg, c2.conc s = c2.conc s')
    (hrun : ∀ t0 t1 t tv : TypeId, runB Tryz.prog orcL 100000 53 [.sl 64 0 m (.u 0), cfg1 100 0, c2] (rI z) 66 (glB t0 t1 ++ opsB t tv l)) (h : caseIs m l c2 x y k rest H = true) :
    FnGood Tryz.prog 53 (.sl x 0 k (.u 0) :: rest) n H (rI z) n H := by
  unfold caseIs at h
  obtain ⟨a1, h⟩ := allB_cons h
  obtain ⟨a2, h⟩ := allB_cons h
  obtain ⟨a3, h⟩ := allB_cons h
  obtain ⟨a4, h⟩ := allB_cons h
  obtain ⟨a5, h⟩ := allB_cons h
  obtain ⟨a6, h⟩ := allB_cons h
  obtain ⟨a7, h⟩ := allB_cons h
  obtain ⟨a8, _⟩ := allB_cons h
  have a1 := Nat.eq_of_beq_eq_true a1
  subst a1
  have a2 := eqV_eq a2
  injection a2 with a2
  subst a2
  have b1 := inR_at a3
  have b2 := inR_at a4
  obtain ⟨t0, z0, c0, g1, g2, t1, z1, c1, g3, g4⟩ := glIs_at a6
  obtain ⟨t, zl, cl, l1, l2⟩ := rowIs_at a7
  obtain ⟨tv, zv, cv, v1, v2⟩ := rowIs_at a8
  rw [List.length_map] at l1 l2
  have q0 : gm2 x y 64 = some x := rfl
  have q1 : gm2 x y 65 = some y := rfl
  have r0 : gm2 x y 0 = some 0 := rfl
  have r1 : gm2 x y 1 = some 1 := rfl
  refine tell_run follows51 orcL_ok (gm := gm2 x y) (hrun t0 t1 t tv) (by decide) (fun g hg => by unfold gm2; rw [if_pos hg]) (fun z w hw => gm2_lt z w hw) (gm2_inj b1.1 b2.1 (neB_at a5)) ?_ (fun p hp => ?_) (fun p hp => ?_) (fun s => ?_) (rI_conc z)
  · simp [glB, opsB]
  · simp only [glB, opsB, List.cons_append, List.nil_append, List.mem_cons, List.not_mem_nil, or_false] at hp
    rcases hp with rfl | rfl | rfl | rfl
    · exact ground_flat _
    · exact ground_flat _
    · exact hfl
    · intro A hA
      cases hA
  · simp only [glB, opsB, List.cons_append, List.nil_append, List.mem_cons, List.not_mem_nil, or_false] at hp
    rcases hp with rfl | rfl | rfl | rfl
    · exact ⟨_, r0, by decide, z0, c0, g1, by rw [ground_ren]; exact g2⟩
    · exact ⟨_, r1, by decide, z1, c1, g3, by rw [ground_ren]; exact g4⟩
    · exact ⟨x, q0, b1.2, zl, cl, l1, l2⟩
    · exact ⟨y, q1, b2.2, zv, cv, v1, v2⟩
  · have hp : (AV.sl x 0 k (.u 0)).conc s = (AV.sl 64 0 k (.u 0)).conc (s.part (gm2 x y)) := by simp [AV.conc, Sg.part, q0, Cap.fits, Cap.val]
    simp only [concL, hp, hc2 s (s.part (gm2 x y))]
    rfl
theorem get_good {x k n : Nat} {rest : List AV} {H : Heap} (h : getIs x k rest H = true) : FnGood Tryz.prog 53 (.sl x 0 k (.u 0) :: rest) n H (rI (.negSucc 0)) n H := by
  unfold getIs at h
  obtain ⟨a1, h⟩ := allB_cons h
  obtain ⟨a2, h⟩ := allB_cons h
  obtain ⟨a3, h⟩ := allB_cons h
  obtain ⟨a6, h⟩ := allB_cons h
  obtain ⟨a7, _⟩ := allB_cons h
  have a1 := Nat.eq_of_beq_eq_true a1
  subst a1
  have a2 := eqV_eq a2
  injection a2 with a2
  subst a2
  have b1 := inR_at a3
  obtain ⟨t0, z0, c0, g1, g2, t1, z1, c1, g3, g4⟩ := glIs_at a6
  obtain ⟨t, zl, cl, l1, l2⟩ := rowIs_at a7
  have q0 : gm1 x 64 = some x := rfl
  have r0 : gm1 x 0 = some 0 := rfl
  have r1 : gm1 x 1 = some 1 := rfl
  refine tell_run follows51 orcL_ok (gm := gm1 x) (Eq.mpr (dif_D t0 t1 t) ⟨rfl, rfl, rfl, rfl, trivial⟩) (by decide) (fun g hg => by unfold gm1; rw [if_pos hg]) (fun z w hw => gm1_lt z w hw) (gm1_inj b1.1) ?_ (fun p hp => ?_) (fun p hp => ?_) (fun s => ?_) (rI_conc _)
  · simp [glB]
  · simp only [glB, List.cons_append, List.nil_append, List.mem_cons, List.not_mem_nil, or_false] at hp
    rcases hp with rfl | rfl | rfl
    · exact ground_flat _
    · exact ground_flat _
    · intro A hA
      simp only [opGet, List.mem_cons, List.not_mem_nil, or_false] at hA
      rcases hA with rfl | rfl | rfl | rfl | rfl | rfl | rfl | rfl | rfl <;> trivial
  · simp only [glB, List.cons_append, List.nil_append, List.mem_cons, List.not_mem_nil, or_false] at hp
    rcases hp with rfl | rfl | rfl
    · exact ⟨_, r0, by decide, z0, c0, g1, by rw [ground_ren]; exact g2⟩
    · exact ⟨_, r1, by decide, z1, c1, g3, by rw [ground_ren]; exact g4⟩
    · exact ⟨x, q0, b1.2, zl, cl, l1, l2⟩
  · have hp : (AV.sl x 0 1 (.u 0)).conc s = (AV.sl 64 0 1 (.u 0)).conc (s.part (gm1 x)) := by simp [AV.conc, Sg.part, q0, Cap.fits, Cap.val]
    simp only [concL, hp]
    rfl
def gm0 (z : Nat) : Option Nat := if z < 64 then some z else none
theorem gm0_at {z w : Nat} (h : gm0 z = some w) : z < 64 ∧ z = w := by
  unfold gm0 at h
  split at h
  · injection h with h
    exact ⟨by assumption, h⟩
  · cases h
theorem none_good {n : Nat} {H : Heap} {rest : List AV} (h1 : eqV (.tup rest) (.tup [cfg1 100 0, cfg1 48 0]) = true) (h2 : glIs H = true) : FnGood Tryz.prog 53 (.sl0 :: rest) n H (rI (.negSucc 0)) n H := by
  have h1 := eqV_eq h1
  injection h1 with h1
  subst h1
  obtain ⟨t0, z0, c0, g1, g2, t1, z1, c1, g3, g4⟩ := glIs_at h2
  have r0 : gm0 0 = some 0 := rfl
  have r1 : gm0 1 = some 1 := rfl
  refine tell_run follows51 orcL_ok (gm := gm0) (Eq.mpr (dif_F t0 t1) ⟨rfl, rfl, rfl, trivial⟩) (by decide) (fun g hg => by unfold gm0; rw [if_pos hg]) (fun z w hw => (gm0_at hw).1) (fun z z' w hz hz' => (gm0_at hz).2.trans (gm0_at hz').2.symm) ?_ (fun p hp => ?_) (fun p hp => ?_) (fun s => ?_) (rI_conc _)
  · simp [glB]
  · simp only [glB, List.mem_cons, List.not_mem_nil, or_false] at hp
    rcases hp with rfl | rfl
    · exact ground_flat _
    · exact ground_flat _
  · simp only [glB, List.mem_cons, List.not_mem_nil, or_false] at hp
    rcases hp with rfl | rfl
    · exact ⟨_, r0, by decide, z0, c0, g1, by rw [ground_ren]; exact g2⟩
    · exact ⟨_, r1, by decide, z1, c1, g3, by rw [ground_ren]; exact g4⟩
  · rfl
theorem opg_flat (n0 : Nat) (gm : Nat → Option Nat) : ∀ A ∈ opGet, A.flat n0 gm := by
  intro A hA
  simp only [opGet, List.mem_cons, List.not_mem_nil, or_false] at hA
  rcases hA with rfl | rfl | rfl | rfl | rfl | rfl | rfl | rfl | rfl <;> trivial
theorem ops_flat {n0 : Nat} {gm : Nat → Option Nat} (h : 65 < n0 ∧ (gm 65).isSome) : ∀ A ∈ opSet, A.flat n0 gm := by
  intro A hA
  simp only [opSet, List.mem_cons, List.not_mem_nil, or_false] at hA
  rcases hA with rfl | rfl | rfl | rfl | rfl | rfl | rfl | rfl | rfl <;> first | trivial | exact h
theorem flat_app {n0 : Nat} {gm : Nat → Option Nat} {l l' : List AV} (h : ∀ A ∈ l, A.flat n0 gm) (h' : ∀ A ∈ l', A.flat n0 gm) : ∀ A ∈ l ++ l', A.flat n0 gm := by
  intro A hA
  rcases List.mem_append.1 hA with hA | hA
  · exact h A hA
  · exact h' A hA
theorem difO_good (args : List AV) (n : Nat) (H : Heap) (v : AV) (n' : Nat) (H' : Heap) (h : difO args n H = .ok v n' H') : FnGood Tryz.prog 53 args n H v n' H' := by
  unfold difO at h
  split at h
  · rename_i x o k u rest
    split at h
    · rename_i y h1 h2 h3
      have h1 := Nat.eq_of_beq_eq_true h1
      have h2 := Nat.eq_of_beq_eq_true h2
      subst h1 h2
      have hy : 65 < 66 ∧ (gm2 x y 65).isSome := ⟨by decide, rfl⟩
      split at h
      · rename_i hc
        injection h with e1 e2 e3
        subst e1 e2 e3
        exact case_good (flat_app (opg_flat _ _) (flat_app (ops_flat hy) (opg_flat _ _))) (fun _ _ => rfl) (fun t0 t1 t tv => Eq.mpr (dif_A t0 t1 t tv) ⟨rfl, rfl, rfl, rfl, rfl, trivial⟩) hc
      · split at h
        · rename_i hc
          injection h with e1 e2 e3
          subst e1 e2 e3
          exact case_good (flat_app (opg_flat _ _) (flat_app (ops_flat hy) (opg_flat _ _))) (fun _ _ => rfl) (fun t0 t1 t tv => Eq.mpr (dif_B t0 t1 t tv) ⟨rfl, rfl, rfl, rfl, rfl, trivial⟩) hc
        · split at h
          · rename_i hc
            injection h with e1 e2 e3
            subst e1 e2 e3
            exact case_good (flat_app (ops_flat hy) (opg_flat _ _)) (fun _ _ => rfl) (fun t0 t1 t tv => Eq.mpr (dif_C t0 t1 t tv) ⟨rfl, rfl, rfl, rfl, rfl, trivial⟩) hc
          · split at h
            · rename_i hc
              injection h with e1 e2 e3
              subst e1 e2 e3
              exact case_good (ops_flat hy) (fun _ _ => rfl) (fun t0 t1 t tv => Eq.mpr (dif_E t0 t1 t tv) ⟨rfl, rfl, rfl, rfl, rfl, trivial⟩) hc
            · cases h
    · rename_i h1 h2 h3
      have h1 := Nat.eq_of_beq_eq_true h1
      have h2 := Nat.eq_of_beq_eq_true h2
      subst h1 h2
      split at h
      · rename_i hc
        injection h with e1 e2 e3
        subst e1 e2 e3
        exact get_good hc
      · cases h
    · cases h
  · rename_i rest
    split at h
    · rename_i h1 h2
      injection h with e1 e2 e3
      subst e1 e2 e3
      exact none_good h1 h2
    · cases h
  · cases h
end Go.Proofs.YtcpophfchchpkaaGreatDoor
namespace Go.Proofs.YtcpophfchchpkaaGreatDoor
open Go Go.RowKit Go.Sy
noncomputable def keys1 (b : Option Go.Sy.Blk) : Bool := match b with
  | some (.map es cl) => (match es with
    | e :: es' => (match e.1, es' with
      | .s k, [] => (match eqV (.s k) (.s [103]) with | true => Nat.blt e.2.2 cl | false => false)
      | _, _ => false)
    | _ => false)
  | _ => false
noncomputable def keys2 (b : Option Go.Sy.Blk) : Bool := match b with
  | some (.map es cl) => (match es with
    | e :: es' => (match es' with
      | f :: es'' => (match e.1, f.1, es'' with
        | .s k, .s l, [] => allB [eqV (.s k) (.s [103]), eqV (.s l) (.s [104]), neB e.2.2 f.2.2, Nat.blt e.2.2 cl, Nat.blt f.2.2 cl]
        | _, _, _ => false)
      | _ => false)
    | _ => false)
  | _ => false
theorem keys1_at {b : Option Go.Sy.Blk} (h : keys1 b = true) : ∃ v c cl, b = some (.map [(.s [103], v, c)] cl) ∧ c < cl := by
  unfold keys1 at h
  split at h
  · rename_i es cl
    split at h
    · rename_i e es'
      split at h
      · rename_i k h1
        split at h
        · rename_i h2
          have h2 := eqV_eq h2
          obtain ⟨ek, ev, ec⟩ := e
          have h1 : ek = AV.s k := h1
          rw [h2] at h1
          subst h1
          exact ⟨ev, ec, cl, rfl, Nat.le_of_ble_eq_true h⟩
        · cases h
      · cases h
    · cases h
  · cases h
theorem keys2_at {b : Option Go.Sy.Blk} (h : keys2 b = true) : ∃ v c v' c' cl, b = some (.map [(.s [103], v, c), (.s [104], v', c')] cl) ∧ c < cl ∧ c' < cl ∧ c ≠ c' := by
  unfold keys2 at h
  split at h
  · rename_i es cl
    split at h
    · rename_i e es'
      split at h
      · rename_i f es''
        split at h
        · rename_i k l h1 h2
          obtain ⟨a1, h⟩ := allB_cons h
          obtain ⟨a2, h⟩ := allB_cons h
          obtain ⟨a3, h⟩ := allB_cons h
          obtain ⟨a4, h⟩ := allB_cons h
          obtain ⟨a5, _⟩ := allB_cons h
          have a1 := eqV_eq a1
          have a2 := eqV_eq a2
          obtain ⟨ek, ev, ec⟩ := e
          obtain ⟨fk, fv, fc⟩ := f
          have h1 : ek = AV.s k := h1
          have h2 : fk = AV.s l := h2
          rw [a1] at h1
          rw [a2] at h2
          subst h1 h2
          exact ⟨ev, ec, fv, fc, cl, rfl, Nat.le_of_ble_eq_true a4, Nat.le_of_ble_eq_true a5, neB_at a3⟩
        · cases h
      · cases h
    · cases h
  · cases h
noncomputable def labMap (H : Heap) (x : Nat) : Option Nat := match Q8.get H x with
  | some (.row _ z m c _ _) => (match cellAt z m c 0 with | some (.m y) => some y | _ => none)
  | _ => none
theorem labMap_at {H : Heap} {x y : Nat} (h : labMap H x = some y) : ∃ t z m c ex mk, Q8.get H x = some (.row t z m c ex mk) ∧ cellAt z m c 0 = some (.m y) := by
  unfold labMap at h
  split at h
  · rename_i t z m c ex mk hq
    split at h
    · rename_i y' hc
      injection h with h
      subst h
      exact ⟨t, z, m, c, ex, mk, hq, hc⟩
    · cases h
  · cases h
noncomputable def putKeys (ks : List (List UInt8)) (n : Nat) (H : Heap) : VR :=
  Q8.set (some (keyRow ks)) H n fun H => frc (Nat.succ n) fun n1 => .ok (.sl n 0 (len ks) (.u 0)) n1 H
noncomputable def namO (args : List AV) (n : Nat) (H : Heap) : VR := match args with
  | .p x o :: rest => (match Nat.beq o 0, Nat.blt x 65536, rest, labMap H x with
      | true, true, [], some y => (match Nat.blt y 65536, keys1 (Q8.get H y) with
        | true, true => putKeys [[103]] n H
        | _, _ => (match Nat.blt y 65536, keys2 (Q8.get H y) with
          | true, true => putKeys [[103], [104]] n H
          | _, _ => .er [440]))
      | _, _, _, _ => .er [441])
  | _ => .er [442]
theorem rdG (v : Value) (c : Nat) : Go.WideElems.rd Tryz.prog 9 RZ ⟨.string ⟨⟨[103]⟩⟩, v, c⟩ = some (.string [103], .nil) := by kernel_rfl
theorem rdH (v : Value) (c : Nat) : Go.WideElems.rd Tryz.prog 9 RZ ⟨.string ⟨⟨[104]⟩⟩, v, c⟩ = some (.string [104], .nil) := by kernel_rfl
theorem kA1 {cl c : Nat} (h : c < cl) (v : Value) : KeysAre [[103]] cl [⟨.string ⟨⟨[103]⟩⟩, v, c⟩] := by
  refine ⟨(Go.MapKept.stamped_iff _ _).2 ⟨?_, ?_, ?_⟩, ?_, by simp, ?_⟩
  · intro x hx; rw [List.mem_singleton.1 hx]; exact h
  · simp
  · simp
  · intro x hx
    rw [List.mem_singleton.1 hx]
    exact ⟨_, rdG v c⟩
  · simp only [List.map_cons, List.map_nil, Go.WideElems.rg_of (rdG v c)]
    rfl
theorem kA2 {cl c c' : Nat} (h : c < cl) (h' : c' < cl) (hn : c ≠ c') (v v' : Value) : KeysAre [[103], [104]] cl [⟨.string ⟨⟨[103]⟩⟩, v, c⟩, ⟨.string ⟨⟨[104]⟩⟩, v', c'⟩] := by
  refine ⟨(Go.MapKept.stamped_iff _ _).2 ⟨?_, ?_, ?_⟩, ?_, by simp, ?_⟩
  · intro x hx
    simp only [List.mem_cons, List.not_mem_nil, or_false] at hx
    rcases hx with rfl | rfl
    · exact h
    · exact h'
  · simp [hn]
  · simp
  · intro x hx
    simp only [List.mem_cons, List.not_mem_nil, or_false] at hx
    rcases hx with rfl | rfl
    · exact ⟨_, rdG v c⟩
    · exact ⟨_, rdH v' c'⟩
  · simp only [List.map_cons, List.map_nil, Go.WideElems.rg_of (rdG v c), Go.WideElems.rg_of (rdH v' c')]
    rfl
theorem all2_one {s : Sg} {k : List UInt8} {v : AV} {c : Nat} {fs : List MapEntry} (h : All2 (MapR s) [(.s k, v, c)] fs) : ∃ V, fs = [⟨.string ⟨⟨k⟩⟩, V, c⟩] := by
  match fs, h with
  | [⟨fk, fv, fb⟩], h =>
    obtain ⟨⟨h1, h2, h3⟩, _⟩ := h
    have h1 : fk = .string ⟨⟨k⟩⟩ := by
      have : some (Value.string ⟨⟨k⟩⟩) = some fk := h1
      injection this with this
      exact this.symm
    have h3 : fb = c := h3
    subst h1 h3
    exact ⟨fv, rfl⟩
theorem all2_two {s : Sg} {k l : List UInt8} {v v' : AV} {c c' : Nat} {fs : List MapEntry} (h : All2 (MapR s) [(.s k, v, c), (.s l, v', c')] fs) : ∃ V V', fs = [⟨.string ⟨⟨k⟩⟩, V, c⟩, ⟨.string ⟨⟨l⟩⟩, V', c'⟩] := by
  match fs, h with
  | f :: fs, h =>
    obtain ⟨h1, h2⟩ := h
    obtain ⟨V', h2⟩ := all2_one h2
    obtain ⟨V, h1⟩ := all2_one (fs := [f]) (show All2 (MapR s) [(.s k, v, c)] [f] from ⟨h1, trivial⟩)
    injection h1 with h1
    subst h1 h2
    exact ⟨V, V', rfl⟩
theorem namO_good (args : List AV) (n : Nat) (H : Heap) (v : AV) (n' : Nat) (H' : Heap) (h : namO args n H = .ok v n' H') : FnGood Tryz.prog 7 args n H v n' H' := by
  unfold namO at h
  split at h
  · rename_i x o rest
    split at h
    · rename_i y h1 h2 h3
      have h1 := Nat.eq_of_beq_eq_true h1
      have h2 : x < LIM := Nat.le_of_ble_eq_true h2
      subst h1
      obtain ⟨t, z, m, c, ex, mk, hq, hc⟩ := labMap_at h3
      split at h
      · rename_i h4 h5
        have h4 : y < LIM := Nat.le_of_ble_eq_true h4
        obtain ⟨v0, c0, cl, hm, hlt⟩ := keys1_at h5
        simp only [putKeys, Q8.set_k, frc_eq] at h
        injection h with e1 e2 e3
        subst e1 e2 e3
        exact names_told h2 h4 hq hc hm (fun s fs hall => by obtain ⟨V, rfl⟩ := all2_one hall; exact kA1 hlt V) (by simp [List.mergeSort]) (by simp) (by simp)
      · split at h
        · rename_i h4 h5
          have h4 : y < LIM := Nat.le_of_ble_eq_true h4
          obtain ⟨v0, c0, v1, c1, cl, hm, hlt, hlt1, hne⟩ := keys2_at h5
          simp only [putKeys, Q8.set_k, frc_eq] at h
          injection h with e1 e2 e3
          subst e1 e2 e3
          exact names_told h2 h4 hq hc hm (fun s fs hall => by obtain ⟨V, V', rfl⟩ := all2_two hall; exact kA2 hlt hlt1 hne V V') (List.mergeSort_of_pairwise (by simp; decide)) (by simp) (by simp)
        · cases h
    · cases h
  · cases h
/-- All that is told. -/
noncomputable def orcB : Orc := fun x => match Nat.beq x 7 with
  | true => some namO
  | false => (fun x => match Nat.beq x 53 with
    | true => some difO
    | false => (fun x => match Nat.beq x 18 with
      | true => some (labO chkR)
      | false => (fun x => match Nat.beq x 36 with
        | true => some (labO (rI (.negSucc 0)))
        | false => orcL x) x) x) x
theorem orcB_ok : OrcOk Tryz.prog orcB := orcOk_add (orcOk_add (orcOk_add (orcOk_add orcL_ok compact_good) check_good) difO_good) namO_good
end Go.Proofs.YtcpophfchchpkaaGreatDoor
namespace Go.Proofs.YtcpophfchchpkaaGreatDoor
open Go Go.RowKit Go.Sy
def gs51 (t0 t1 : TypeId) : List (Nat × GV) := [(0, gInts .i64 t0 kindsN), (1, gInts .u8 t1 bruijnN)]
def gl51 : List (Nat × List AV) := [(0, kindsN.map fun n => .i .i64 (.ofNat n)), (1, bruijnN.map fun n => .i .u8 (.ofNat n))]
/-- known told. -/
noncomputable def knL (args : List AV) (n : Nat) (H : Heap) : VR := match args with
  | [] => (match readsRows H gl51 with
      | true => .ok (.b true) n H
      | false => .er [410])
  | _ => .er [411]
noncomputable def orcN : Orc := fun x => match Nat.beq x 5 with | true => some knL | false => none
def cfg5 (a0 a1 a2 a3 : Int) (a4 : Bool) : AV := .agg [.ov (.int .i64 a0), .ov (.int .i64 a1), .ov (.int .i64 a2), .ov (.int .u64 a3), .ov (.bool a4)]
theorem cfg5_conc (s : Sg) (a0 a1 a2 a3 : Int) (a4 : Bool) : (cfg5 a0 a1 a2 a3 a4).conc s = some (.agg #[.int .i64 a0, .int .i64 a1, .int .i64 a2, .int .u64 a3, .bool a4]) := by
  simp only [cfg5, AV.conc, concL, Value.oneCell', lenV]
  simp
  exact ⟨rfl, rfl, rfl, rfl, rfl⟩
end Go.Proofs.YtcpophfchchpkaaGreatDoor

/- The walks of layer 26's parts: how each is read. -/
import Derived.Test.YtffigmciclopdaaDoorScrA
namespace Go.Proofs.YtffigmciclopdaaDoor
open Go Go.RowKit

/-- A reader with some bytes left. -/
def RS (w : World) (B g : Nat) (rs : List UInt8) : Prop := ∃ V, Blk w g 80 #[V] ∧ Bts w B 5 V rs
/-- An operation in a box. -/
def OS (w : World) (B h : Nat) (o : OpV) : Prop := ∃ V, Blk w h 43 (opc o V) ∧ Bts w B 5 V o.val

section
variable {w w' : World} {B g h : Nat} {rs : List UInt8} {o : OpV}
theorem RS.below (k : RS w B g rs) (hb : Below w.heap.size w w') : RS w' B g rs := by
  obtain ⟨V, h1, h2⟩ := k
  exact ⟨V, h1.below hb, h2.below hb⟩
theorem OS.below (k : OS w B h o) (hb : Below w.heap.size w w') : OS w' B h o := by
  obtain ⟨V, h1, h2⟩ := k
  exact ⟨V, h1.below hb, h2.below hb⟩
theorem RS.ne (k : RS w B g rs) (j : OS w B h o) : g ≠ h := by
  obtain ⟨V, h1, _⟩ := k
  obtain ⟨V2, h2, _⟩ := j
  exact h1.ne_ h2 (by decide)
theorem RS.lt (k : RS w B g rs) : g < w.heap.size := by obtain ⟨V, h1, _⟩ := k; exact h1.lt
theorem OS.lt (k : OS w B h o) : h < w.heap.size := by obtain ⟨V, h1, _⟩ := k; exact h1.lt
theorem OS.only (k : OS w B h o) (r : RS w B g rs) (hg : B ≤ g) (ho : Only (fun k => k = g) w w') : OS w' B h o := by
  have hne := r.ne k
  obtain ⟨V, h1, h2⟩ := k
  obtain ⟨V2, h3, _⟩ := r
  exact ⟨V, h1.only ho (fun e => hne e.symm), h2.keep (KeepB.of_blk h3 (by decide) hg ho)⟩
theorem RS.only (r : RS w B g rs) (k : OS w B h o) (hg : B ≤ h) (ho : Only (fun k => k = h) w w') : RS w' B g rs := by
  have hne := r.ne k
  obtain ⟨V, h1, h2⟩ := k
  obtain ⟨V2, h3, h4⟩ := r
  exact ⟨V2, h3.only ho hne, h4.keep (KeepB.of_blk h1 (by decide) hg ho)⟩
end

theorem number_rs (B g : Nat) (rs : List UInt8) (n : Nat) (w : World) (hr : RS w B g rs) (hg : B ≤ g) (hn : n ≤ 3) :
    Calls Tryd.prog 46 #[.pointer (some ⟨g, 0, none⟩), .int .i64 n] w fun e w' => e = .returned (.int .i64 (numBE (takeP n rs))) ∧ RS w' B g (rs.drop n) ∧ Only (fun k => k = g) w w' := by
  obtain ⟨V, h1, h2⟩ := hr
  refine (number_any B g V rs n w h1 h2 hg hn).mono ?_
  rintro e w' ⟨rfl, hb, ho⟩
  exact ⟨rfl, hb, ho⟩

theorem take_rs (B g : Nat) (rs : List UInt8) (n : Nat) (w : World) (hr : RS w B g rs) (hg : B ≤ g) (hn : n ≤ 1000000) :
    Calls Tryd.prog 53 #[.pointer (some ⟨g, 0, none⟩), .int .i64 n] w fun e w' => ∃ v, e = .returned v ∧ w'.ownsRow w.heap.size 5 1 v n (bcells (takeP n rs)) ∧ RS w' B g (rs.drop n) ∧ Only (fun k => k = g) w w' := by
  obtain ⟨V, h1, h2⟩ := hr
  refine (take_any B g V rs n w h1 h2 hg hn).mono ?_
  rintro e w' ⟨v, rfl, ho, hb, hy⟩
  exact ⟨v, rfl, ho, hb, hy⟩

/-- What a part's reader has done. -/
def RdPost (B g h : Nat) (r : OpV × List UInt8) (w : World) (e : Ending) (w' : World) : Prop :=
  (∃ u, e = .returned u) ∧ RS w' B g r.2 ∧ OS w' B h r.1 ∧ Only (fun k => k = g ∨ k = h) w w'

def rdF : Part → Nat
  | .key => 54
  | .value => 56
  | .ttl => 58
  | .budgets => 61
  | .aim => 63
  | .birth => 65

/-- A number of some bytes is read and kept in a field. -/
theorem RdPost.put {B g h i : Nat} {o o' : OpV} {rs : List UInt8} {w wx : World} {V V' u : Value} (hr : RS wx B g rs) (hb : Blk wx h 43 (opc o V)) (hv : Bts wx B 5 V' o'.val)
    (e : (opc o V).setIfInBounds i u = opc o' V') (hh : B ≤ h) (hne : g ≠ h) (hy : Only (fun k => k = g ∨ k = h) w wx) (x : Value) : RdPost B g h (o', rs) w (.returned x) (wx.setCell ⟨h, i, none⟩ u) := by
  have hon : Only (fun k => k = h) wx (wx.setCell ⟨h, i, none⟩ u) := Only.set1 _ _ _ _
  have hk : KeepB B 5 wx (wx.setCell ⟨h, i, none⟩ u) := KeepB.of_blk hb (by decide) hh hon
  obtain ⟨V2, h3, h4⟩ := hr
  exact ⟨⟨x, rfl⟩, ⟨V2, h3.only hon hne, h4.keep hk⟩, ⟨V', e ▸ hb.set_ i u, hv.keep hk⟩, Only.setCell (S := fun k => k = g ∨ k = h) hy (p := ⟨h, i, none⟩) (.inl (.inr rfl)) _⟩

theorem Only.or_l {S T : Nat → Prop} {a b : World} (h : Only S a b) : Only (fun k => S k ∨ T k) a b := h.mono fun _ _ hs => .inl hs


set_option maxHeartbeats 1000000 in
theorem rd_ttl (B g h : Nat) (rs : List UInt8) (o : OpV) (w : World) (hr : RS w B g rs) (ho : OS w B h o) (hg : B ≤ g) (hh : B ≤ h) :
    Calls Tryd.prog 58 #[.pointer (some ⟨g, 0, none⟩), .pointer (some ⟨h, 0, none⟩)] w (RdPost B g h (rdPart .ttl o rs) w) := by
  have hne := hr.ne ho
  have HR := Lib.hid hr
  have HO := Lib.hid ho
  have HG := Lib.hid hg
  have HH := Lib.hid hh
  have HE := Lib.hid hne
  clear hr ho hg hh hne
  go_enter Tryd.func58, Tryd.ntmps58
  go_wp2_with fail
  refine (number_rs B g rs 2 w HR.out HG.out (by omega)).mono ?_
  rintro e w1 ⟨rfl, hr1, hy1⟩
  obtain ⟨V, hb, hv⟩ := HO.out.only HR.out HG.out hy1
  have HB := Lib.hid hb
  have HV := Lib.hid hv
  have HR1 := Lib.hid hr1
  have HY1 := Lib.hid hy1
  have f := hb.frozen
  have c := hb.cell 4 _ rfl
  have hn := numBE_lt (takeP 2 rs)
  rw [takeP_length] at hn
  clear hb hv hr1 hy1
  have hw : IntKind.u64.wrap (numBE (takeP 2 rs) : Int) = (numBE (takeP 2 rs) : Int) := by rw [IntKind.wrap_u64]; omega
  go_wp2_with fail
  refine bodyPost_end (v := .tuple #[]) (results_none rfl _ _ _) rfl ?_
  exact RdPost.put (o' := (rdPart .ttl o rs).1) (V' := V) HR1.out HB.out HV.out rfl HH.out HE.out HY1.out.or_l _

set_option maxHeartbeats 1000000 in
theorem rd_aim (B g h : Nat) (rs : List UInt8) (o : OpV) (w : World) (hr : RS w B g rs) (ho : OS w B h o) (hg : B ≤ g) (hh : B ≤ h) :
    Calls Tryd.prog 63 #[.pointer (some ⟨g, 0, none⟩), .pointer (some ⟨h, 0, none⟩)] w (RdPost B g h (rdPart .aim o rs) w) := by
  have hne := hr.ne ho
  have HR := Lib.hid hr
  have HO := Lib.hid ho
  have HG := Lib.hid hg
  have HH := Lib.hid hh
  have HE := Lib.hid hne
  clear hr ho hg hh hne
  go_enter Tryd.func63, Tryd.ntmps63
  go_wp2_with fail
  refine (number_rs B g rs 1 w HR.out HG.out (by omega)).mono ?_
  rintro e w1 ⟨rfl, hr1, hy1⟩
  obtain ⟨V, hb, hv⟩ := HO.out.only HR.out HG.out hy1
  have HB := Lib.hid hb
  have HV := Lib.hid hv
  have HR1 := Lib.hid hr1
  have HY1 := Lib.hid hy1
  have f := hb.frozen
  have c := hb.cell 7 _ rfl
  have hn := numBE_lt (takeP 1 rs)
  rw [takeP_length] at hn
  clear hb hv hr1 hy1
  have hw : IntKind.u64.wrap (numBE (takeP 1 rs) : Int) = (numBE (takeP 1 rs) : Int) := by rw [IntKind.wrap_u64]; omega
  go_wp2_with fail
  refine bodyPost_end (v := .tuple #[]) (results_none rfl _ _ _) rfl ?_
  exact RdPost.put (o' := (rdPart .aim o rs).1) (V' := V) HR1.out HB.out HV.out rfl HH.out HE.out HY1.out.or_l _

set_option maxHeartbeats 1000000 in
theorem rd_birth (B g h : Nat) (rs : List UInt8) (o : OpV) (w : World) (hr : RS w B g rs) (ho : OS w B h o) (hg : B ≤ g) (hh : B ≤ h) :
    Calls Tryd.prog 65 #[.pointer (some ⟨g, 0, none⟩), .pointer (some ⟨h, 0, none⟩)] w (RdPost B g h (rdPart .birth o rs) w) := by
  have hne := hr.ne ho
  have HR := Lib.hid hr
  have HO := Lib.hid ho
  have HG := Lib.hid hg
  have HH := Lib.hid hh
  have HE := Lib.hid hne
  clear hr ho hg hh hne
  go_enter Tryd.func65, Tryd.ntmps65
  go_wp2_with fail
  refine (number_rs B g rs 2 w HR.out HG.out (by omega)).mono ?_
  rintro e w1 ⟨rfl, hr1, hy1⟩
  obtain ⟨V, hb, hv⟩ := HO.out.only HR.out HG.out hy1
  have HB := Lib.hid hb
  have HV := Lib.hid hv
  have HR1 := Lib.hid hr1
  have HY1 := Lib.hid hy1
  have f := hb.frozen
  have c := hb.cell 8 _ rfl
  have hn := numBE_lt (takeP 2 rs)
  rw [takeP_length] at hn
  clear hb hv hr1 hy1
  have hw : IntKind.u64.wrap (numBE (takeP 2 rs) : Int) = (numBE (takeP 2 rs) : Int) := by rw [IntKind.wrap_u64]; omega
  go_wp2_with fail
  refine bodyPost_end (v := .tuple #[]) (results_none rfl _ _ _) rfl ?_
  exact RdPost.put (o' := (rdPart .birth o rs).1) (V' := V) HR1.out HB.out HV.out rfl HH.out HE.out HY1.out.or_l _

set_option maxHeartbeats 1000000 in
theorem rd_budgets (B g h : Nat) (rs : List UInt8) (o : OpV) (w : World) (hr : RS w B g rs) (ho : OS w B h o) (hg : B ≤ g) (hh : B ≤ h) :
    Calls Tryd.prog 61 #[.pointer (some ⟨g, 0, none⟩), .pointer (some ⟨h, 0, none⟩)] w (RdPost B g h (rdPart .budgets o rs) w) := by
  have hne := hr.ne ho
  have HR := Lib.hid hr
  have HO := Lib.hid ho
  have HG := Lib.hid hg
  have HH := Lib.hid hh
  have HE := Lib.hid hne
  clear hr ho hg hh hne
  go_enter Tryd.func61, Tryd.ntmps61
  go_wp2_with fail
  refine (number_rs B g rs 2 w HR.out HG.out (by omega)).mono ?_
  rintro e w1 ⟨rfl, hr1, hy1⟩
  obtain ⟨V, hb, hv⟩ := HO.out.only HR.out HG.out hy1
  have HB := Lib.hid hb
  have HV := Lib.hid hv
  have HR1 := Lib.hid hr1
  have HY1 := Lib.hid hy1
  have f := hb.frozen
  have c := hb.cell 5 _ rfl
  clear hb hv hr1 hy1
  go_wp2_with fail
  have hp := RdPost.put (g := g) (o' := { o with count := numBE (takeP 2 rs) }) (V' := V) (i := 5) (u := .int .i64 (numBE (takeP 2 rs))) HR1.out HB.out HV.out rfl HH.out HE.out HY1.out.or_l (.tuple #[])
  generalize World.setCell _ _ _ = w2 at hp ⊢
  obtain ⟨_, hr2, ho2, hy2⟩ := hp
  have HR2 := Lib.hid hr2
  have HO2 := Lib.hid ho2
  have HY2 := Lib.hid hy2
  clear f c hr2 ho2 hy2 HB HV
  refine (number_rs B g (rs.drop 2) 3 w2 HR2.out HG.out (by omega)).mono ?_
  rintro e w3 ⟨rfl, hr3, hy3⟩
  obtain ⟨V3, hb, hv⟩ := HO2.out.only HR2.out HG.out hy3
  have HB := Lib.hid hb
  have HV := Lib.hid hv
  have HR3 := Lib.hid hr3
  have HY3 : Hid (Only (fun k => k = g ∨ k = h) w w3) := Lib.hid (HY2.out.trans hy3 (fun i _ e => .inl e))
  have f := hb.frozen
  have c := hb.cell 6 _ rfl
  clear hb hv hr3 hy3
  go_wp2_with fail
  refine bodyPost_end (v := .tuple #[]) (results_none rfl _ _ _) rfl ?_
  exact RdPost.put (o' := (rdPart .budgets o rs).1) (V' := V3) HR3.out HB.out HV.out rfl HH.out HE.out HY3.out _

set_option maxHeartbeats 1000000 in
theorem rd_value (B g h : Nat) (rs : List UInt8) (o : OpV) (w : World) (hr : RS w B g rs) (ho : OS w B h o) (hg : B ≤ g) (hh : B ≤ h) :
    Calls Tryd.prog 56 #[.pointer (some ⟨g, 0, none⟩), .pointer (some ⟨h, 0, none⟩)] w (RdPost B g h (rdPart .value o rs) w) := by
  have hne := hr.ne ho
  have HR := Lib.hid hr
  have HO := Lib.hid ho
  have HG := Lib.hid hg
  have HH := Lib.hid hh
  have HE := Lib.hid hne
  clear hr ho hg hh hne
  go_enter Tryd.func56, Tryd.ntmps56
  go_wp2_with fail
  refine (number_rs B g rs 1 w HR.out HG.out (by omega)).mono ?_
  rintro e w1 ⟨rfl, hr1, hy1⟩
  have HO1 := Lib.hid (HO.out.only HR.out HG.out hy1)
  have HR1 := Lib.hid hr1
  have HY1 := Lib.hid hy1
  have hn := numBE_lt (takeP 1 rs)
  rw [takeP_length] at hn
  have HN := Lib.hid hn
  clear hr1 hy1 hn
  go_wp2_with fail
  refine (take_rs B g (rs.drop 1) (numBE (takeP 1 rs)) w1 HR1.out HG.out (by have := HN.out; omega)).mono ?_
  rintro e w2 ⟨v, rfl, hv, hr2, hy2⟩
  obtain ⟨V, hb, _⟩ := HO1.out.only HR1.out HG.out hy2
  obtain ⟨A, cap, rfl, _, _⟩ := own_form hv
  have HB := Lib.hid hb
  have hv2 := hv
  rw [show numBE (takeP 1 rs) = (takeP (numBE (takeP 1 rs)) (rs.drop 1)).length by rw [takeP_length]] at hv2
  rw [takeP_length] at hv2
  have HV : Hid (Bts w2 B 5 (.slice A (numBE (takeP 1 rs)) cap) (takeP (numBE (takeP 1 rs)) (rs.drop 1))) := Lib.hid (Bts.of_own (by rw [takeP_length]; exact hv) B)
  have HR2 := Lib.hid hr2
  have HY2 : Hid (Only (fun k => k = g) w w2) := Lib.hid (HY1.out.trans hy2 (fun i _ e => e))
  have f := hb.frozen
  have c := hb.cell 3 _ rfl
  clear hb hv hr2 hy2 hv2
  go_wp2_with fail
  refine bodyPost_end (v := .tuple #[]) (results_none rfl _ _ _) rfl ?_
  exact RdPost.put (o' := (rdPart .value o rs).1) HR2.out HB.out HV.out rfl HH.out HE.out HY2.out.or_l _

set_option maxHeartbeats 1000000 in
theorem rd_key (B g h : Nat) (rs : List UInt8) (o : OpV) (w : World) (hr : RS w B g rs) (ho : OS w B h o) (hg : B ≤ g) (hh : B ≤ h) :
    Calls Tryd.prog 54 #[.pointer (some ⟨g, 0, none⟩), .pointer (some ⟨h, 0, none⟩)] w (RdPost B g h (rdPart .key o rs) w) := by
  have hne := hr.ne ho
  have HR := Lib.hid hr
  have HO := Lib.hid ho
  have HG := Lib.hid hg
  have HH := Lib.hid hh
  have HE := Lib.hid hne
  clear hr ho hg hh hne
  go_enter Tryd.func54, Tryd.ntmps54
  go_wp2_with fail
  refine (number_rs B g rs 1 w HR.out HG.out (by omega)).mono ?_
  rintro e w1 ⟨rfl, hr1, hy1⟩
  have HO1 := Lib.hid (HO.out.only HR.out HG.out hy1)
  have HR1 := Lib.hid hr1
  have HY1 := Lib.hid hy1
  clear hr1 hy1
  go_wp2_with fail
  rw [show ((numBE (takeP 1 rs) : Int) % 32) = ((numBE (takeP 1 rs) % 32 : Nat) : Int) by omega]
  refine (take_rs B g (rs.drop 1) (numBE (takeP 1 rs) % 32) w1 HR1.out HG.out (by omega)).mono ?_
  rintro e w2 ⟨v, rfl, hv, hr2, hy2⟩
  obtain ⟨V, hb, hvv⟩ := HO1.out.only HR1.out HG.out hy2
  have hs := (Bts.of_own (bs := takeP (numBE (takeP 1 rs) % 32) (rs.drop 1)) (by rw [takeP_length]; exact hv) B).string (P := Tryd.prog) 22 9 Tryd.underlying22 Tryd.underlying5 Tryd.underlying9
  obtain ⟨A, cap, rfl, _, _⟩ := own_form hv
  have HB := Lib.hid hb
  have HV := Lib.hid hvv
  have HR2 := Lib.hid hr2
  have HY2 : Hid (Only (fun k => k = g) w w2) := Lib.hid (HY1.out.trans hy2 (fun i _ e => e))
  have f := hb.frozen
  have c := hb.cell 2 _ rfl
  clear hb hv hr2 hy2 hvv
  go_wp2_with fail
  refine bodyPost_end (v := .tuple #[]) (results_none rfl _ _ _) rfl ?_
  exact RdPost.put (o' := (rdPart .key o rs).1) HR2.out HB.out HV.out (by simp [opc, rdPart]) HH.out HE.out HY2.out.or_l _

/-- Every part is read so. -/
theorem rd_any (p : Part) (B g h : Nat) (rs : List UInt8) (o : OpV) (w : World) (hr : RS w B g rs) (ho : OS w B h o) (hg : B ≤ g) (hh : B ≤ h) :
    Calls Tryd.prog (rdF p) #[.pointer (some ⟨g, 0, none⟩), .pointer (some ⟨h, 0, none⟩)] w (RdPost B g h (rdPart p o rs) w) := by
  cases p with
  | key => exact rd_key B g h rs o w hr ho hg hh
  | value => exact rd_value B g h rs o w hr ho hg hh
  | ttl => exact rd_ttl B g h rs o w hr ho hg hh
  | budgets => exact rd_budgets B g h rs o w hr ho hg hh
  | aim => exact rd_aim B g h rs o w hr ho hg hh
  | birth => exact rd_birth B g h rs o w hr ho hg hh

end Go.Proofs.YtffigmciclopdaaDoor

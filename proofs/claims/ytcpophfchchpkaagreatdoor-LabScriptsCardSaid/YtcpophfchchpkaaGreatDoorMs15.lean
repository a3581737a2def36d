/- LbR, LbO -/
import Derived.Test.YtcpophfchchpkaaGreatDoorMs12
import Derived.Test.YtcpophfchchpkaaGreatDoorMs14
import Derived.Test.YtcpophfchchpkaaGreatDoorMs10
namespace Go.Proofs.YtcpophfchchpkaaGreatDoor
open Go Go.RowKit Go.Sy
section
variable {P : Program}
/-- A new block. -/
theorem alloc1 {s : Sg} {H : Heap} {w w' : World} {n b0 c : Nat} {A0 : Go.Sy.Blk} {o0 : Obj} (h : Rel P s H w) (hf : Free s n (n + 1)) (hn : n + 1 ≤ LIM) (hb : Below w.heap.size w w') (c0 : w.heap.size ≤ b0)
    (e0 : w'.heap[b0]? = some o0) (r0 : BlkR P (s.set n b0 c) n A0 o0) :
    Rel P (s.set n b0 c) (Q8.upd H n (some A0)) w' ∧ Step s n H w (s.set n b0 c) (n + 1) (Q8.upd H n (some A0)) w' := by
  have k0 := hf n (Nat.le_refl _) (by omega)
  have hg : ∀ x, x < LIM → Q8.get (Q8.upd H n (some A0)) x = if x = n then some A0 else Q8.get H x := fun x hx => by
    rw [Q8.get_upd _ _ _ _ (by omega) hx]
    simp only [eq_comm (b := x)]
  have hle : s.le (s.set n b0 c) := Sg.set_le k0
  have hblk : ∀ x, (s.set n b0 c).blk x = if x = n then some b0 else s.blk x := fun x => rfl
  have hwhat : ∀ x b, x < LIM → Q8.get (Q8.upd H n (some A0)) x ≠ none → (s.set n b0 c).blk x = some b → (x = n ∧ b = b0) ∨ (b < w.heap.size ∧ Q8.get H x ≠ none ∧ s.blk x = some b) := fun x b hx h1 h2 => by
    rw [hg x hx] at h1
    rw [hblk] at h2
    by_cases a0 : x = n
    · rw [if_pos a0] at h2; injection h2 with h2; exact .inl ⟨a0, h2.symm⟩
    · rw [if_neg a0] at h1 h2
      obtain ⟨B, hB⟩ := Option.ne_none_iff_exists'.1 h1
      exact .inr ⟨h.lt hx hB h2, h1, h2⟩
  refine ⟨⟨fun x b hx => ?_, fun g hgl => (hle g g (h.glob g hgl)).1, fun x A hx hA => ?_, fun x y b hx hy h1 h2 h3 h4 => ?_⟩, fun x hx => ?_, hb.size, fun b hb' _ => hb.block b hb', fun y b hy h1 h2 h3 => ?_, hb.os, hb.tape, hb.output⟩
  · rw [hblk] at hx
    by_cases a0 : x = n
    · omega
    · rw [if_neg a0] at hx; exact h.lim x b hx
  · rw [hg x hx] at hA
    by_cases a0 : x = n
    · rw [if_pos a0] at hA; injection hA with hA; subst hA a0
      exact ⟨b0, o0, by rw [hblk, if_pos rfl], e0, r0⟩
    · rw [if_neg a0] at hA
      obtain ⟨b, o, x1, x2, x3⟩ := h.blk x A hx hA
      exact ⟨b, o, (hle x b x1).1, by rw [hb.block b (Array.getElem?_eq_some_iff.1 x2).1]; exact x2, x3.le hle x1⟩
  · have p := hwhat x b hx h1 h3
    have q := hwhat y b hy h2 h4
    rcases p with ⟨p1, p2⟩ | ⟨p1, p2, p3⟩ <;> rcases q with ⟨q1, q2⟩ | ⟨q1, q2, q3⟩ <;> first | omega | exact h.inj x y b hx hy p2 q2 p3 q3
  · have : x ≠ n := by omega
    exact ⟨by rw [hblk, if_neg this], by simp [Sg.set, this]⟩
  · rcases hwhat y b hy h1 h2 with ⟨p1, p2⟩ | ⟨p1, p2, p3⟩
    · omega
    · exact ⟨y, hy, p2, p3⟩
end
abbrev RZ : Value → Option (DataW Unit × List MemPlace) := fun _ => some (.nil, [])
/-- What the map's entries come to. -/
def KeysAre (ks : List (List UInt8)) (cl : Nat) (fs : List MapEntry) : Prop :=
  Go.MapKept.Stamped ⟨fs⟩ cl ∧ (∀ x ∈ fs, ∃ y, Go.WideElems.rd Tryz.prog 9 RZ x = some y) ∧ fs.length ≤ 64 ∧ strKeys (.map ((fs.map (Go.WideElems.rg Tryz.prog 9 RZ)).foldr DataW.insert [])) = ks
noncomputable def keyRow (ks : List (List UInt8)) : Go.Sy.Blk := .row 9 (fun _ => none) (len ks) (T.e.puts (ks.map .s) 0) false false
theorem str_cells : Tryz.prog.cellsOf 9 = 1 := by kernel_rfl
theorem names_told {ks : List (List UInt8)} {n : Nat} {H : Heap} {x y cl : Nat} {t : TypeId} {z : Nat → Option AV} {m : Nat} {c : T AV} {ex mk : Bool} {es : List (AV × AV × Nat)} (hx : x < LIM) (hy : y < LIM)
    (hq : Q8.get H x = some (.row t z m c ex mk)) (hc : cellAt z m c 0 = some (.m y)) (hm : Q8.get H y = some (.map es cl))
    (hk : ∀ s fs, All2 (MapR s) es fs → KeysAre ks cl fs) (hs : ks.mergeSort (fun x y => decide (x ≤ y)) = ks) (h0 : ks ≠ []) (h2 : ks.length ≤ 64) :
    FnGood Tryz.prog 7 [.p x 0] n H (.sl n 0 (len ks) (.u 0)) (n + 1) (Q8.upd H n (some (keyRow ks))) := by
  refine ⟨by omega, fun s w Args R hA hr hf hl hR => ?_⟩
  obtain ⟨u, us, hu, hus, rfl⟩ := concL_cons.1 hA
  rw [concL_nil] at hus; subst hus
  obtain ⟨bx, o, b1, b2, b3⟩ := hr.blk x _ hx hq
  have hu : u = .pointer (some ⟨bx, 0, none⟩) := by
    simp [AV.conc, b1] at hu
    exact hu.symm
  subst hu
  obtain ⟨a, t', fz, rfl⟩ : ∃ a t' fz, o = .cells a t' fz := by
    cases o <;> first | exact ⟨_, _, _, rfl⟩ | exact b3.elim
  obtain ⟨V, v1, v2, _⟩ := b3.2.2.1 0 _ hc
  obtain ⟨by_, o, m1, m2, m3⟩ := hr.blk y _ hy hm
  have hV : V = .map (some by_) := by
    simp [AV.conc, m1] at v1
    exact v1.symm
  subst hV
  obtain ⟨fa, cl', rfl⟩ : ∃ fa cl', o = .map fa cl' := by
    cases o <;> first | exact ⟨_, _, rfl⟩ | exact m3.elim
  obtain ⟨rfl, hall⟩ := m3
  obtain ⟨k1, k2, k3, k4⟩ := hk s _ hall
  have hsz : Maps.size (H := Unit) (.map ((fa.toList.map (Go.WideElems.rg Tryz.prog 9 RZ)).foldr DataW.insert [])) = ks.length := by
    rw [← k4]; simp [Maps.size, strKeys]
  have hown : w.ownsMap Tryz.prog 9 RZ by_ 64 (.map ((fa.toList.map (Go.WideElems.rg Tryz.prog 9 RZ)).foldr DataW.insert [])) :=
    ⟨fa, cl', m2, ⟨Nat.le_trans (show fa.size ≤ 64 from k3) (by decide), k1, k2⟩, k3, rfl⟩
  refine callsIn_wide.2 ((names_any bx by_ 64 _ RZ w (by simp [World.cell?, b2, v2]) hown (by rw [hsz]; exact Nat.le_trans h2 (by decide)) (by rw [hsz]; omega)).mono ?_)
  rintro e w' ⟨v, ss, rfl, hp, hrow, hnil, hb⟩
  have hms : ss.mergeSort (fun x y => decide (x ≤ y)) = ks := by
    have := mergeSort_of_perm hp
    rw [k4] at this
    exact this.trans hs
  have hlen : ss.length = ks.length := by rw [← hms, List.length_mergeSort]
  rw [hms, hlen] at hrow
  rcases hrow.2 with ⟨_, h⟩ | ⟨g, cap, cur, rfl, g1, g2, g3, g4, g5, g6⟩
  · exact absurd (List.eq_nil_of_length_eq_zero h) h0
  · have hcap : ∀ k, k < ks.length → cur[k]? = (ks[k]?).map encStr := fun k hk => by
      rw [← Array.getElem?_toList, ← List.getElem?_take_of_lt (j := ks.length * 1) (by omega), g6, List.getElem?_map]
    have key := alloc1 (P := Tryz.prog) (A0 := keyRow ks) (c := cap) hr hf hl hb g1 g2 ?_
    · refine hR _ _ w' ?_ key.1 key.2
      rw [len_eq]
      exact sl_conc.2 ⟨g, by rw [Sg.set_blk], by simp [Cap.fits, Sg.set_cap]; exact g3, by simp [Cap.val, Sg.set_cap]⟩
    · refine ⟨rfl, by rw [len_eq]; omega, fun i A hA => ?_, ?_, .inl rfl⟩
      · have hlt := cellAt_lt hA
        rw [cellAt_eq, if_pos hlt, T.get_puts] at hA
        rw [len_eq] at hlt
        rw [if_pos (by simp; omega)] at hA
        simp only [Nat.sub_zero, List.getElem?_map, Option.map_eq_some_iff] at hA
        have hA : ∃ k, ks[i]? = some k ∧ A = .s k := by
          obtain ⟨k, hk⟩ : ∃ k, ks[i]? = some k := ⟨ks[i], List.getElem?_eq_getElem hlt⟩
          simp [hk] at hA
          exact ⟨k, hk, hA.symm⟩
        obtain ⟨k, hk1, rfl⟩ := hA
        exact ⟨_, rfl, by rw [hcap i hlt, hk1]; rfl, rfl⟩
      · rw [if_neg (by decide), Sg.set_cap, g5, str_cells]
end Go.Proofs.YtcpophfchchpkaaGreatDoor
namespace Go.Proofs.YtcpophfchchpkaaGreatDoor
open Go Go.RowKit Go.Sy
/-- The program's variables. -/
def glB (t0 t1 : TypeId) : List (Nat × SB) := [(0, .row t0 (kindsN.map fun n => .i .i64 (.ofNat n)) true false), (1, .row t1 (bruijnN.map fun n => .i .u8 (.ofNat n)) true false)]
def cfg1 (by_ sd : Nat) : AV := .agg [.i .i64 (.ofNat 1), .i .i64 (.ofNat by_), .i .i64 (.ofNat 0), .i .u64 (.ofNat sd), .b false]
def scrB : List AV := [0, 1, 97, 1, 1, 97, 0, 0, 1, 97].map fun n => .i .u8 (.ofNat n)
/-- The lab, its map, the script's bytes. -/
def labB (tl tb : TypeId) : List (Nat × SB) := [(64, .row tl [.m 65] true false), (65, .map [(.s [103], .sl 66 0 10 (.u 0), 0)] 1), (66, .row tb scrB false true)]
def opGet : List AV := [.i .i64 (.ofNat 3), .i .u64 (.ofNat 0), .s [97], .sl0, .i .u64 (.ofNat 0), .i .i64 (.ofNat 0), .i .i64 (.ofNat 0), .i .i64 (.ofNat 0), .i .u64 (.ofNat 0)]
def opSet : List AV := [.i .i64 (.ofNat 1), .i .u64 (.ofNat 0), .s [97], .sl 65 0 0 (.k 0), .i .u64 (.ofNat 0), .i .i64 (.ofNat 0), .i .i64 (.ofNat 0), .i .i64 (.ofNat 0), .i .u64 (.ofNat 0)]
/-- Operations in a row of which the capacity is not known; the set's value: an empty block. -/
def opsB (t tv : TypeId) (l : List AV) : List (Nat × SB) := [(64, .row t l false false), (65, .row tv [] true true)]
def rI (z : Int) : AV := .tup [.i .i64 z, .i .i64 (.ofNat 0)]
end Go.Proofs.YtcpophfchchpkaaGreatDoor

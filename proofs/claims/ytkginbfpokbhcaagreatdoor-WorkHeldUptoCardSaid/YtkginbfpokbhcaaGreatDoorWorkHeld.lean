/-
  dolmenlaw20.WorkHeld returns true. Conditions: the world can be read and is of a bounded bulk; MaxLen holds an int.
-/
import Derived.Test.YtkginbfpokbhcaaGreatDoorMade
import Derived.Test.YtkginbfpokbhcaaGreatDoorHeldLaw
import Derived.Test.YtkginbfpokbhcaaGreatDoorAwake20
import Derived.Test.YtkginbfpokbhcaaGreatDoorMine20
import Derived.Deep.CutBlock
import Derived.MapKept
namespace Go.Proofs.YtkginbfpokbhcaaGreatDoor
open Go.RowKit
open IdxLaw (Ent)
open DiffLaw (ofPaths fid)

/-- what the laws ask of a disk that is no larger than its room -/
theorem small_ofH {L : List DF} {cap : Nat} (h : (costs L : Int) ≤ cap) (hc : cap ≤ 1048575) : L.length ≤ 1000000 ∧ smallC L := by
  have h1 := len_costs L
  exact ⟨by omega, fun x hx => by have := one_costs hx; omega⟩
theorem ba_ne {a b : List UInt8} (h : a ≠ b) : ((⟨a.toArray⟩ : ByteArray) == ⟨b.toArray⟩) = false := by
  rw [Bool.eq_false_iff]
  intro hh
  have h2 := (Go.MapKept.bytes_beq _ _).1 hh
  injection h2 with h2
  exact h (by simpa using h2)
/-- nothing would be lost -/
def Lost0 (L : List DF) (li : List Ent) (cur tgt : List Fil) : Prop := ∃ ns ps, ns.Perm (L.map (·.1)) ∧ ns.Pairwise (· < ·) ∧ DiffLaw.Paths ps cur tgt ∧ (listOf ns).filter (lostB L li (ofPaths ps cur tgt) cur) = []
/-- these are the steps -/
def StepsAre (L : List DF) (cur tgt stp : List Fil) : Prop := ∃ ns ps, ns.Perm (L.map (·.1)) ∧ ns.Pairwise (· < ·) ∧ DiffLaw.Paths ps cur tgt ∧ stp = stepsOf ns (ofPaths ps cur tgt) tgt
/-- these are the steps, so many -/
def StepsN (L : List DF) (cur tgt stp : List Fil) (n : Nat) : Prop := StepsAre L cur tgt stp ∧ n ≤ maxLen
theorem held_all {L : List DF} {li : List Ent} {cur tgt stp : List Fil} (h : Lost0 L li cur tgt) (k : StepsAre L cur tgt stp) {x : Fil} (hx : x ∈ stp) (h3 : getE L x.1 ≠ 3) (h1 : getE L x.1 ≠ 1) :
    getE L x.1 = 0 ∧ (isIdx li x.1 (widL (getB L x.1)) = true ∨ fid cur x.1 = widL (getB L x.1)) := by
  obtain ⟨ns, ps, a1, a2, a3, a4⟩ := h
  obtain ⟨ns', ps', b1, b2, b3, rfl⟩ := k
  obtain rfl : ns = ns' := rising_ext a2 b2 fun x => (a1.mem_iff).trans (b1.mem_iff).symm
  obtain rfl : ps = ps' := DiffLaw.paths_eq a3 b3
  exact held_step a1 a4 hx h3 h1
theorem steps_lens {L : List DF} {cur tgt stp : List Fil} (h : StepsAre L cur tgt stp) (hL : ∀ y ∈ L, okName y.1 = true) (hc : ∀ f ∈ cur, f.1.length ≤ 2147483648) (ht : ∀ f ∈ tgt, f.1.length ≤ 2147483648) : ∀ x ∈ stp, x.1.length ≤ 2147483648 := by
  obtain ⟨ns, ps, a1, _, a3, rfl⟩ := h
  intro x hx
  unfold stepsOf at hx
  rcases List.mem_append.1 hx with h | h
  · obtain ⟨p, hp, rfl⟩ := List.mem_map.1 h
    obtain ⟨s, hs, hps⟩ := List.mem_filterMap.1 (List.mem_filter.1 hp).1
    obtain ⟨y, hy, rfl⟩ := List.mem_map.1 (a1.mem_iff.1 hs)
    have h2 := (okName_len (hL y hy)).2
    unfold pathOf at hps
    split at hps
    · cases hps
      have := trim_len y.1 [119, 47]
      show (Lib.trimPrefix y.1 [119, 47]).length ≤ _
      omega
    · cases hps
  · obtain ⟨c, hc2, rfl⟩ := List.mem_map.1 h
    have h3 := (DiffLaw.of_mem (List.mem_filter.1 hc2).1).1
    show c.1.length ≤ _
    rcases (a3.2 c.1).1 h3 with h4 | h4
    · obtain ⟨f, hf, e⟩ := List.mem_map.1 h4
      rw [← e]; exact hc f hf
    · obtain ⟨f, hf, e⟩ := List.mem_map.1 h4
      rw [← e]; exact ht f hf
def wh5Phi (L : List DF) (li : List IdxLaw.Ent) (p q g1 : Nat) (C D : Option Addr) (jn c9 kn f9 : Nat) (cur tgt : List Fil) : Nat → Value → World → Prop
  | 0, v, _ => v = .pointer (some ⟨p, 0, none⟩)
  | 1, v, _ => v = .pointer (some ⟨q, 0, none⟩)
  | 2, v, _ => v = .pointer (some ⟨g1, 3, none⟩)
  | 3, v, _ => v = .slice C jn c9
  | 4, v, w => ∃ (A' : Option Addr) (c' : Nat), v = .slice A' jn c' ∧ Sl w 2 A' jn (fls cur)
  | 5, v, _ => v = .pointer (some ⟨g1, 4, none⟩)
  | 6, v, _ => v = .slice D kn f9
  | 7, v, w => ∃ (A' : Option Addr) (c' : Nat), v = .slice A' kn c' ∧ Sl w 2 A' kn (fls tgt)
  | 8, v, _ => ∃ (A' : Option Addr) (n' c' : Nat), v = .slice A' n' c' ∧ (n' = 0 → Lost0 L li cur tgt)
  | 9, v, _ => ∃ n' : Nat, v = I (n' : Int) ∧ (n' = 0 → Lost0 L li cur tgt)
  | _, _, _ => True
theorem wh5Phi_mono {L : List DF} {li : List IdxLaw.Ent} {p q g1 : Nat} {C D : Option Addr} {jn c9 kn f9 : Nat} {cur tgt : List Fil} : ∀ (j : Nat) (v : Value) (w w' : World), wh5Phi L li p q g1 C D jn c9 kn f9 cur tgt j v w → Below w.heap.size w w' → wh5Phi L li p q g1 C D jn c9 kn f9 cur tgt j v w' := by
  intro j v w w' h hb9
  match j, h with
  | 0, h => exact h
  | 1, h => exact h
  | 2, h => exact h
  | 3, h => exact h
  | 4, h => obtain ⟨A', c', h1, h2⟩ := h; exact ⟨A', c', h1, h2.below hb9⟩
  | 5, h => exact h
  | 6, h => exact h
  | 7, h => obtain ⟨A', c', h1, h2⟩ := h; exact ⟨A', c', h1, h2.below hb9⟩
  | 8, h => exact h
  | 9, h => exact h
  | (n + 10), _ => trivial
def wh7Phi (L : List DF) (p g1 : Nat) (C D : Option Addr) (jn c9 kn f9 : Nat) (cur tgt : List Fil) : Nat → Value → World → Prop
  | 0, v, _ => v = .pointer (some ⟨p, 0, none⟩)
  | 1, v, _ => v = .pointer (some ⟨g1, 3, none⟩)
  | 2, v, _ => v = .slice C jn c9
  | 3, v, w => ∃ (A' : Option Addr) (c' : Nat), v = .slice A' jn c' ∧ Sl w 2 A' jn (fls cur)
  | 4, v, _ => v = .pointer (some ⟨g1, 4, none⟩)
  | 5, v, _ => v = .slice D kn f9
  | 6, v, w => ∃ (A' : Option Addr) (c' : Nat), v = .slice A' kn c' ∧ Sl w 2 A' kn (fls tgt)
  | 7, v, w => ∃ (A' : Option Addr) (n' c' : Nat) (stp : List Fil), v = .slice A' n' c' ∧ Sl w 2 A' n' (fls stp) ∧ StepsN L cur tgt stp n'
  | _, _, _ => True
theorem wh7Phi_mono {L : List DF} {p g1 : Nat} {C D : Option Addr} {jn c9 kn f9 : Nat} {cur tgt : List Fil} : ∀ (j : Nat) (v : Value) (w w' : World), wh7Phi L p g1 C D jn c9 kn f9 cur tgt j v w → Below w.heap.size w w' → wh7Phi L p g1 C D jn c9 kn f9 cur tgt j v w' := by
  intro j v w w' h hb9
  match j, h with
  | 0, h => exact h
  | 1, h => exact h
  | 2, h => exact h
  | 3, h => obtain ⟨A', c', h1, h2⟩ := h; exact ⟨A', c', h1, h2.below hb9⟩
  | 4, h => exact h
  | 5, h => exact h
  | 6, h => obtain ⟨A', c', h1, h2⟩ := h; exact ⟨A', c', h1, h2.below hb9⟩
  | 7, h => obtain ⟨A', n', c', stp, h1, h2, h3⟩ := h; exact ⟨A', n', c', stp, h1, h2.below hb9, h3⟩
  | (n + 8), _ => trivial
def wh15aPhi (g3 : Nat) (own eid : List UInt8) : Nat → Value → World → Prop
  | 0, v, _ => v = I 0
  | 1, v, _ => v = .bool false
  | 2, v, _ => v = .bool false
  | 3, v, _ => v = .bool true
  | 4, v, _ => v = .bool true
  | 5, v, _ => v = .pointer (some ⟨g3, 2, none⟩)
  | 6, v, _ => v = S eid
  | 7, v, _ => v = S own
  | 8, v, _ => v = .bool true
  | 9, v, _ => v = .bool true
  | 10, v, _ => v = .bool false
  | 11, v, _ => v = .bool false
  | 12, v, _ => v = undef
  | 13, v, _ => v = undef
  | 14, v, _ => v = undef
  | 15, v, _ => v = undef
  | 16, v, _ => v = undef
  | 17, v, _ => v = undef
  | 18, v, _ => v = undef
  | 19, v, _ => v = undef
  | 20, v, _ => v = undef
  | 21, v, _ => v = undef
  | 22, v, _ => v = undef
  | 23, v, _ => v = .bool false
  | _, _, _ => True
theorem wh15aPhi_mono {g3 : Nat} {own eid : List UInt8} : ∀ (j : Nat) (v : Value) (w w' : World), wh15aPhi g3 own eid j v w → Below w.heap.size w w' → wh15aPhi g3 own eid j v w' := by
  intro j v w w' h _
  match j, h with
  | 0, h => exact h
  | 1, h => exact h
  | 2, h => exact h
  | 3, h => exact h
  | 4, h => exact h
  | 5, h => exact h
  | 6, h => exact h
  | 7, h => exact h
  | 8, h => exact h
  | 9, h => exact h
  | 10, h => exact h
  | 11, h => exact h
  | 12, h => exact h
  | 13, h => exact h
  | 14, h => exact h
  | 15, h => exact h
  | 16, h => exact h
  | 17, h => exact h
  | 18, h => exact h
  | 19, h => exact h
  | 20, h => exact h
  | 21, h => exact h
  | 22, h => exact h
  | 23, h => exact h
  | (n + 24), _ => trivial
def wh15bPhi (g1 b9 off k9 n9 c10 : Nat) (C : Option Addr) (jn c9 : Nat) (cur : List Fil) (pth own : List UInt8) : Nat → Value → World → Prop
  | 0, v, _ => v = I 0
  | 1, v, _ => v = .bool false
  | 2, v, _ => v = .bool false
  | 3, v, _ => v = .bool false
  | 4, v, _ => v = .bool false
  | 5, v, _ => v = undef
  | 6, v, _ => v = undef
  | 7, v, _ => v = undef
  | 8, v, _ => v = undef
  | 9, v, _ => v = .bool false
  | 10, v, _ => v = .bool true
  | 11, v, _ => v = .bool true
  | 12, v, _ => v = .pointer (some ⟨g1, 3, none⟩)
  | 13, v, _ => v = .slice C jn c9
  | 14, v, w => ∃ (A' : Option Addr) (c' : Nat), v = .slice A' jn c' ∧ Sl w 2 A' jn (fls cur)
  | 15, v, _ => v = .slice (some ⟨b9, off, none⟩) n9 c10
  | 16, v, _ => v = I ((k9 : Int))
  | 17, v, _ => v = .pointer (some ⟨b9, off + k9 * 2, none⟩)
  | 18, v, _ => v = .pointer (some ⟨b9, off + k9 * 2 + 0, none⟩)
  | 19, v, _ => v = S pth
  | 20, v, _ => v = S own
  | 21, v, _ => v = S own
  | 22, v, _ => v = .bool false
  | 23, v, _ => v = .bool false
  | _, _, _ => True
theorem wh15bPhi_mono {g1 b9 off k9 n9 c10 : Nat} {C : Option Addr} {jn c9 : Nat} {cur : List Fil} {pth own : List UInt8} : ∀ (j : Nat) (v : Value) (w w' : World), wh15bPhi g1 b9 off k9 n9 c10 C jn c9 cur pth own j v w → Below w.heap.size w w' → wh15bPhi g1 b9 off k9 n9 c10 C jn c9 cur pth own j v w' := by
  intro j v w w' h hb9
  match j, h with
  | 0, h => exact h
  | 1, h => exact h
  | 2, h => exact h
  | 3, h => exact h
  | 4, h => exact h
  | 5, h => exact h
  | 6, h => exact h
  | 7, h => exact h
  | 8, h => exact h
  | 9, h => exact h
  | 10, h => exact h
  | 11, h => exact h
  | 12, h => exact h
  | 13, h => exact h
  | 14, h => obtain ⟨A', c', h1, h2⟩ := h; exact ⟨A', c', h1, h2.below hb9⟩
  | 15, h => exact h
  | 16, h => exact h
  | 17, h => exact h
  | 18, h => exact h
  | 19, h => exact h
  | 20, h => exact h
  | 21, h => exact h
  | 22, h => exact h
  | 23, h => exact h
  | (n + 24), _ => trivial
def wh15cPhi (g1 g3 b9 off k9 n9 c10 : Nat) (C : Option Addr) (jn c9 : Nat) (cur : List Fil) (pth own eid : List UInt8) : Nat → Value → World → Prop
  | 0, v, _ => v = I 0
  | 1, v, _ => v = .bool false
  | 2, v, _ => v = .bool false
  | 3, v, _ => v = .bool true
  | 4, v, _ => v = .bool true
  | 5, v, _ => v = .pointer (some ⟨g3, 2, none⟩)
  | 6, v, _ => v = S eid
  | 7, v, _ => v = S own
  | 8, v, _ => v = .bool false
  | 9, v, _ => v = .bool false
  | 10, v, _ => v = .bool true
  | 11, v, _ => v = .bool true
  | 12, v, _ => v = .pointer (some ⟨g1, 3, none⟩)
  | 13, v, _ => v = .slice C jn c9
  | 14, v, w => ∃ (A' : Option Addr) (c' : Nat), v = .slice A' jn c' ∧ Sl w 2 A' jn (fls cur)
  | 15, v, _ => v = .slice (some ⟨b9, off, none⟩) n9 c10
  | 16, v, _ => v = I ((k9 : Int))
  | 17, v, _ => v = .pointer (some ⟨b9, off + k9 * 2, none⟩)
  | 18, v, _ => v = .pointer (some ⟨b9, off + k9 * 2 + 0, none⟩)
  | 19, v, _ => v = S pth
  | 20, v, _ => v = S own
  | 21, v, _ => v = S own
  | 22, v, _ => v = .bool false
  | 23, v, _ => v = .bool false
  | _, _, _ => True
theorem wh15cPhi_mono {g1 g3 b9 off k9 n9 c10 : Nat} {C : Option Addr} {jn c9 : Nat} {cur : List Fil} {pth own eid : List UInt8} : ∀ (j : Nat) (v : Value) (w w' : World), wh15cPhi g1 g3 b9 off k9 n9 c10 C jn c9 cur pth own eid j v w → Below w.heap.size w w' → wh15cPhi g1 g3 b9 off k9 n9 c10 C jn c9 cur pth own eid j v w' := by
  intro j v w w' h hb9
  match j, h with
  | 0, h => exact h
  | 1, h => exact h
  | 2, h => exact h
  | 3, h => exact h
  | 4, h => exact h
  | 5, h => exact h
  | 6, h => exact h
  | 7, h => exact h
  | 8, h => exact h
  | 9, h => exact h
  | 10, h => exact h
  | 11, h => exact h
  | 12, h => exact h
  | 13, h => exact h
  | 14, h => obtain ⟨A', c', h1, h2⟩ := h; exact ⟨A', c', h1, h2.below hb9⟩
  | 15, h => exact h
  | 16, h => exact h
  | 17, h => exact h
  | 18, h => exact h
  | 19, h => exact h
  | 20, h => exact h
  | 21, h => exact h
  | 22, h => exact h
  | 23, h => exact h
  | (n + 24), _ => trivial
set_option maxHeartbeats 8000000 in
set_option maxRecDepth 100000 in
theorem workHeld_law (x : Wd) (w : World) (hx : x.ok w) (hM : MaxL w) :
    Calls Tryz.prog 4 #[.agg #[I x.room, .slice x.A x.n x.c, .slice x.B x.m x.d, .slice x.C x.j x.e, .slice x.D x.k x.f]] w fun e w' => e = .returned (.bool true) ∧ Below w.heap.size w w' := by
  have hX := Lib.hid hx
  have HM := Lib.hid hM
  obtain ⟨g1, hg1⟩ : ∃ g1, g1 = w.heap.size := ⟨_, rfl⟩
  obtain ⟨w1, hw1⟩ : ∃ w1, w1 = w.alloc (.cells #[I x.room, .slice x.A x.n x.c, .slice x.B x.m x.d, .slice x.C x.j x.e, .slice x.D x.k x.f] 43) := ⟨_, rfl⟩
  have hG1 : Blk w1 g1 43 #[I x.room, .slice x.A x.n x.c, .slice x.B x.m x.d, .slice x.C x.j x.e, .slice x.D x.k x.f] := by rw [hw1, hg1]; exact Blk.new w _ _
  have b1 : Below w.heap.size w w1 := by rw [hw1]; exact balloc (Below.refl _ w) _
  have HG1 := Lib.hid hG1
  have B1 := Lib.hid b1
  have CW := Lib.hid (awake20_any w1 (hM.step b1))
  have rg := hG1.cell
  clear hx hM hG1 b1
  go_enter Tryz.func4, Tryz.ntmps4
  go_wp2_with fail
  simp only [← hg1]
  rw [← hw1]
  clear hg1 hw1
  refine CW.out.mono ?_
  rintro e w2 ⟨rfl, b2⟩
  have B2 := Lib.hid (bstep B1.out b2)
  have HG2 := Lib.hid (HG1.out.step b2)
  have rg2 := HG2.out.cell
  have CM := Lib.hid (made20_any x w2 (hX.out.below B2.out) (HM.out.step B2.out))
  clear b2 CW rg
  go_wp2_with fail
  refine CM.out.mono ?_
  rintro e w3 ⟨p, mp, r, q, mi, zz, nn, cap, i, L, l, li, lz, rfl, hS, hnn, hcap, hi, hE, b3⟩
  have HS := Lib.hid hS
  have Hc := Lib.hid (small_ofH hS.cost hcap)
  have B3 := Lib.hid (bstep B2.out b3)
  have HG := Lib.hid (HG2.out.step b3)
  have rg3 := HG.out.cell
  clear hS hnn hcap hi hE b3 CM rg2
  obtain ⟨room, A, n, c, raw, B, m, d, puts, C, jn, c9, cur, D, kn, f9, tgt⟩ := x
  simp only at rg3 HG
  have hways : decide ((100 : Int) < (jn : Int)) = true ∨ (decide ((100 : Int) < (jn : Int)) = false ∧ decide ((100 : Int) < (kn : Int)) = true) ∨ (decide ((100 : Int) < (jn : Int)) = false ∧ decide ((100 : Int) < (kn : Int)) = false) := by
    cases decide ((100 : Int) < (jn : Int)) <;> cases decide ((100 : Int) < (kn : Int)) <;> simp
  rcases hways with d1 | ⟨d1, d2⟩ | ⟨d1, d2⟩
  · go_wp2
    go_ret
    exact ⟨rfl, B3.out⟩
  · go_wp2
    go_ret
    exact ⟨rfl, B3.out⟩
  · have HC : Hid (Sl w 2 C jn (fls cur) ∧ jn ≤ 400000 ∧ ∀ f ∈ cur, f.1.length ≤ 2147483648) := Lib.hid ⟨hX.out.cur, hX.out.curn, fun f hf => Nat.le_trans (hX.out.curg f hf) (by omega)⟩
    have HD : Hid (Sl w 2 D kn (fls tgt) ∧ kn ≤ 400000 ∧ ∀ f ∈ tgt, f.1.length ≤ 2147483648) := Lib.hid ⟨hX.out.tgt, hX.out.tgtn, fun f hf => Nat.le_trans (hX.out.tgtg f hf) (by omega)⟩
    have CM : Hid (∀ V, Below w3.heap.size w3 V → Calls Tryz.prog 12 #[.slice C jn c9] V fun e w' => ∃ (A' : Option Addr) (c' : Nat), e = .returned (.slice A' jn c') ∧ Ow V w' 80 2 A' jn c' (fls cur)) := Lib.hid (fun V hV => mine20_any V C jn c9 cur (HC.out.1.below (bstep B3.out hV)) (by have := HC.out.2.1; omega))
    have CT : Hid (∀ V, Below w3.heap.size w3 V → Calls Tryz.prog 12 #[.slice D kn f9] V fun e w' => ∃ (A' : Option Addr) (c' : Nat), e = .returned (.slice A' kn c') ∧ Ow V w' 80 2 A' kn c' (fls tgt)) := Lib.hid (fun V hV => mine20_any V D kn f9 tgt (HD.out.1.below (bstep B3.out hV)) (by have := HD.out.2.1; omega))
    have CC : Hid (∀ V, Below w3.heap.size w3 V → ∀ (A1 : Option Addr) (c1 : Nat) (A2 : Option Addr) (c2 : Nat), Sl V 2 A1 jn (fls cur) → Sl V 2 A2 kn (fls tgt) → Calls Tryz.prog 19 #[.pointer (some ⟨p, 0, none⟩), .pointer (some ⟨q, 0, none⟩), .slice A1 jn c1, .slice A2 kn c2] V fun e w' => (∃ (A' : Option Addr) (n' c' : Nat), e = .returned (.slice A' n' c') ∧ (n' = 0 → Lost0 L li cur tgt)) ∧ Below V.heap.size V w') := Lib.hid (fun V hV A1 c1 A2 c2 h1 h2 => by
      obtain ⟨ni, _, hI⟩ := HS.out.idx
      refine (clobber_any V p mp nn cap L q mi ni li A1 A2 jn kn c1 c2 cur tgt (HS.out.disk.step hV) Hc.out.1 (hI.step hV) (HM.out.step (bstep B3.out hV)) Hc.out.2 h1 h2 HC.out.2.1 HD.out.2.1 HC.out.2.2 HD.out.2.2).mono ?_
      rintro e w' ⟨A', n', c', ns, ps, rfl, z1, z2, z3, hn', hO⟩
      exact ⟨⟨A', n', c', rfl, fun h0 => ⟨ns, ps, z1, z2, z3, List.eq_nil_of_length_eq_zero (hn'.symm.trans h0)⟩⟩, hO.2⟩)
    have CS : Hid (∀ V, Below w3.heap.size w3 V → ∀ (A1 : Option Addr) (c1 : Nat) (A2 : Option Addr) (c2 : Nat), Sl V 2 A1 jn (fls cur) → Sl V 2 A2 kn (fls tgt) → Calls Tryz.prog 15 #[.pointer (some ⟨p, 0, none⟩), .slice A1 jn c1, .slice A2 kn c2] V fun e w' => (∃ (A' : Option Addr) (n' c' : Nat) (stp : List Fil), e = .returned (.slice A' n' c') ∧ Sl w' 2 A' n' (fls stp) ∧ StepsN L cur tgt stp n') ∧ Below V.heap.size V w') := Lib.hid (fun V hV A1 c1 A2 c2 h1 h2 => by
      refine (wsteps_any V p mp nn cap L A1 A2 jn kn c1 c2 cur tgt (HS.out.disk.step hV) Hc.out.1 (HM.out.step (bstep B3.out hV)) h1 h2 HC.out.2.1 HD.out.2.1 HC.out.2.2 HD.out.2.2).mono ?_
      rintro e w' ⟨A', n', c', ns, ps, rfl, z1, z2, z3, hO⟩
      exact ⟨⟨A', n', c', _, rfl, hO.sl, ⟨ns, ps, z1, z2, z3, rfl⟩, Nat.le_trans hO.cap.1 hO.cap.2⟩, hO.2⟩)
    go_wp2
    go_cut [58] from 48 (fun v W => ∃ b : Bool, v = .bool b ∧ Hid (b = false → Lost0 L li cur tgt) ∧ Hid (Below w3.heap.size w3 W))
    case first =>
      refine wp_region_guards (by kernel_rfl) 10 (by kernel_rfl) ?_ (wh5Phi L li p q g1 C D jn c9 kn f9 cur tgt) wh5Phi_mono (fun i9 o hi ho a w hb hs hm => ?_) (fun o ho a w5 hb hs hm => ?_)
      · exact dst_ltC2 (n := 127) (by kernel_rfl)
      · exact match i9, hi, ho with
          | 0, _, ho => by
              cases ho
              rw [if_pos (wanted_none _ rfl)]
              refine wp_value (st_move rfl ((hs.keeps (by kernel_rfl)).trans rfl)) ⟨_, rfl, rfl, Below.refl _ _⟩
          | 1, _, ho => by
              cases ho
              rw [if_pos (wanted_none _ rfl)]
              refine wp_value (st_move rfl ((hs.keeps (by kernel_rfl)).trans rfl)) ⟨_, rfl, rfl, Below.refl _ _⟩
          | 2, _, ho => by
              cases ho
              rw [if_pos (wanted_none _ rfl)]
              refine wp_value (st_field rfl ((hs.keeps (by kernel_rfl)).trans rfl) (by kernel_rfl)) ⟨_, rfl, rfl, Below.refl _ _⟩
          | 3, _, ho => by
              cases ho
              rw [if_pos (wanted_none _ rfl)]
              have hx : w.cell? ⟨g1, 3, none⟩ = some (.slice C jn c9) := (HG.out.step hb).cell 3; refine wp_value (st_load rfl (hm.get 2 50 (by kernel_rfl)) (by go_simp)) ⟨_, rfl, rfl, Below.refl _ _⟩
          | 4, _, ho => by
              cases ho
              rw [if_pos (wanted_none _ rfl)]
              have h1 := eval_getD (hm.get 3 51 (by kernel_rfl)); unfold Oper.wp; simp only [execOp]; go_simp; refine (CM.out w hb).mono ?_; rintro e w6 ⟨A6, c6, rfl, hO6⟩; exact ⟨_, rfl, ⟨A6, c6, rfl, hO6.sl⟩, hO6.2⟩
          | 5, _, ho => by
              cases ho
              rw [if_pos (wanted_none _ rfl)]
              refine wp_value (st_field rfl ((hs.keeps (by kernel_rfl)).trans rfl) (by kernel_rfl)) ⟨_, rfl, rfl, Below.refl _ _⟩
          | 6, _, ho => by
              cases ho
              rw [if_pos (wanted_none _ rfl)]
              have hx : w.cell? ⟨g1, 4, none⟩ = some (.slice D kn f9) := (HG.out.step hb).cell 4; refine wp_value (st_load rfl (hm.get 5 53 (by kernel_rfl)) (by go_simp)) ⟨_, rfl, rfl, Below.refl _ _⟩
          | 7, _, ho => by
              cases ho
              rw [if_pos (wanted_none _ rfl)]
              have h1 := eval_getD (hm.get 6 54 (by kernel_rfl)); unfold Oper.wp; simp only [execOp]; go_simp; refine (CT.out w hb).mono ?_; rintro e w6 ⟨A6, c6, rfl, hO6⟩; exact ⟨_, rfl, ⟨A6, c6, rfl, hO6.sl⟩, hO6.2⟩
          | 8, _, ho => by
              cases ho
              rw [if_pos (wanted_none _ rfl)]
              refine Exists.elim (show ∃ (A' : Option Addr) (c' : Nat), a.eval (.tmp 52) = .slice A' jn c' ∧ Sl w 2 A' jn (fls cur) from (hm.get 4 52 (by kernel_rfl))) fun A1 h18 => ?_; refine Exists.elim h18 fun c1 h19 => ?_; have g1 := eval_getD h19.1; refine Exists.elim (show ∃ (A' : Option Addr) (c' : Nat), a.eval (.tmp 55) = .slice A' kn c' ∧ Sl w 2 A' kn (fls tgt) from (hm.get 7 55 (by kernel_rfl))) fun A2 h28 => ?_; refine Exists.elim h28 fun c2 h29 => ?_; have g2 := eval_getD h29.1; have h1 := eval_getD (hm.get 0 48 (by kernel_rfl)); have h2 := eval_getD (hm.get 1 49 (by kernel_rfl)); unfold Oper.wp; simp only [execOp]; go_simp; refine (CC.out w hb A1 c1 A2 c2 h19.2 h29.2).mono ?_; rintro e w6 ⟨⟨A6, n6, c6, rfl, hz⟩, b6⟩; exact ⟨_, rfl, ⟨A6, n6, c6, rfl, hz⟩, b6⟩
          | 9, _, ho => by
              cases ho
              rw [if_pos (wanted_none _ rfl)]
              refine Exists.elim (show ∃ (A' : Option Addr) (n' c' : Nat), a.eval (.tmp 56) = .slice A' n' c' ∧ (n' = 0 → Lost0 L li cur tgt) from (hm.get 8 56 (by kernel_rfl))) fun A1 h8 => ?_; refine Exists.elim h8 fun n1 h9 => ?_; refine Exists.elim h9 fun c1 h10 => ?_; have h1 := eval_getD h10.1; unfold Oper.wp; simp only [execOp]; go_simp; exact ⟨_, rfl, ⟨n1, rfl, h10.2⟩, Below.refl _ _⟩
          | (n + 10), hi, _ => absurd hi (by omega)

      refine Exists.elim (show ∃ n' : Nat, a.eval (.tmp 57) = I (n' : Int) ∧ (n' = 0 → Lost0 L li cur tgt) by cases ho; exact hm.get 9 57 (by kernel_rfl)) fun n9 he => ?_
      have e1 := he.1
      have HZ := Lib.hid he.2
      have hfr := hs.frame [48, 49, 50, 51, 52, 53, 54, 55, 56, 57, 58] (by kernel_rfl)
      have B5 := Lib.hid hb
      cases ho
      rw [hfr]
      simp only [List.foldl_cons, List.foldl_nil, e1]
      clear hfr hs hm e1 he hb
      generalize a.eval (.tmp 48) = u48
      generalize a.eval (.tmp 49) = u49
      generalize a.eval (.tmp 50) = u50
      generalize a.eval (.tmp 51) = u51
      generalize a.eval (.tmp 52) = u52
      generalize a.eval (.tmp 53) = u53
      generalize a.eval (.tmp 54) = u54
      generalize a.eval (.tmp 55) = u55
      generalize a.eval (.tmp 56) = u56
      generalize a.eval (.tmp 58) = u58
      unfold Oper.wp
      simp only [execOp]
      go_simp
      clear a
      go_wp2
      go_meet
      case rel => exact ⟨decide (0 < n9), rfl, Lib.hid (fun h => HZ.out (by have := of_decide_eq_false h; omega)), B5⟩
    case rest =>
      obtain ⟨b, rfl, hb0, hB5⟩ := hcut
      cases b with
      | true =>
        go_wp2
        go_ret
        exact ⟨rfl, bstep B3.out hB5.out⟩
      | false =>
      have HL0 := Lib.hid (hb0.out rfl)
      have HGc := Lib.hid (HG.out.step hB5.out)
      have HSc := Lib.hid (HS.out.step hB5.out)
      have CMc := Lib.hid (fun V (hV : Below wc.heap.size wc V) => CM.out V (bstep hB5.out hV))
      have CTc := Lib.hid (fun V (hV : Below wc.heap.size wc V) => CT.out V (bstep hB5.out hV))
      have CSc := Lib.hid (fun V (hV : Below wc.heap.size wc V) => CS.out V (bstep hB5.out hV))
      have B5 := Lib.hid (bstep B3.out hB5.out)
      clear CC CM CT CS hb0 hB5 HG HS rg3 d1 d2
      have HG := HGc
      have HS := HSc
      have CM := CMc
      have CT := CTc
      have CS := CSc
      have rg3 := HG.out.cell
      clear HGc HSc CMc CTc CSc
      obtain ⟨wd, hwd⟩ : ∃ wd, wd = wc := ⟨_, rfl⟩
      subst hwd
      go_wp2
      go_cut [9] from 59 (fun v W => ∃ (A' : Option Addr) (n' c' : Nat) (stp : List Fil), v = .slice A' n' c' ∧ Hid (Sl W 2 A' n' (fls stp) ∧ StepsN L cur tgt stp n') ∧ Hid (Below wd.heap.size wd W))
      case first =>
        refine wp_region_guards (by kernel_rfl) 8 (by kernel_rfl) ?_ (wh7Phi L p g1 C D jn c9 kn f9 cur tgt) wh7Phi_mono (fun i9 o hi ho a w hb hs hm => ?_) (fun o ho a w5 hb hs hm => ?_)
        · exact dst_ltC2 (n := 127) (by kernel_rfl)
        · exact match i9, hi, ho with
            | 0, _, ho => by
                cases ho
                rw [if_pos (wanted_none _ rfl)]
                refine wp_value (st_move rfl ((hs.keeps (by kernel_rfl)).trans rfl)) ⟨_, rfl, rfl, Below.refl _ _⟩
            | 1, _, ho => by
                cases ho
                rw [if_pos (wanted_none _ rfl)]
                refine wp_value (st_field rfl ((hs.keeps (by kernel_rfl)).trans rfl) (by kernel_rfl)) ⟨_, rfl, rfl, Below.refl _ _⟩
            | 2, _, ho => by
                cases ho
                rw [if_pos (wanted_none _ rfl)]
                have hx : w.cell? ⟨g1, 3, none⟩ = some (.slice C jn c9) := (HG.out.step hb).cell 3; refine wp_value (st_load rfl (hm.get 1 60 (by kernel_rfl)) (by go_simp)) ⟨_, rfl, rfl, Below.refl _ _⟩
            | 3, _, ho => by
                cases ho
                rw [if_pos (wanted_none _ rfl)]
                have h1 := eval_getD (hm.get 2 61 (by kernel_rfl)); unfold Oper.wp; simp only [execOp]; go_simp; refine (CM.out w hb).mono ?_; rintro e w6 ⟨A6, c6, rfl, hO6⟩; exact ⟨_, rfl, ⟨A6, c6, rfl, hO6.sl⟩, hO6.2⟩
            | 4, _, ho => by
                cases ho
                rw [if_pos (wanted_none _ rfl)]
                refine wp_value (st_field rfl ((hs.keeps (by kernel_rfl)).trans rfl) (by kernel_rfl)) ⟨_, rfl, rfl, Below.refl _ _⟩
            | 5, _, ho => by
                cases ho
                rw [if_pos (wanted_none _ rfl)]
                have hx : w.cell? ⟨g1, 4, none⟩ = some (.slice D kn f9) := (HG.out.step hb).cell 4; refine wp_value (st_load rfl (hm.get 4 63 (by kernel_rfl)) (by go_simp)) ⟨_, rfl, rfl, Below.refl _ _⟩
            | 6, _, ho => by
                cases ho
                rw [if_pos (wanted_none _ rfl)]
                have h1 := eval_getD (hm.get 5 64 (by kernel_rfl)); unfold Oper.wp; simp only [execOp]; go_simp; refine (CT.out w hb).mono ?_; rintro e w6 ⟨A6, c6, rfl, hO6⟩; exact ⟨_, rfl, ⟨A6, c6, rfl, hO6.sl⟩, hO6.2⟩
            | 7, _, ho => by
                cases ho
                rw [if_pos (wanted_none _ rfl)]
                refine Exists.elim (show ∃ (A' : Option Addr) (c' : Nat), a.eval (.tmp 62) = .slice A' jn c' ∧ Sl w 2 A' jn (fls cur) from (hm.get 3 62 (by kernel_rfl))) fun A1 h18 => ?_; refine Exists.elim h18 fun c1 h19 => ?_; have g1 := eval_getD h19.1; refine Exists.elim (show ∃ (A' : Option Addr) (c' : Nat), a.eval (.tmp 65) = .slice A' kn c' ∧ Sl w 2 A' kn (fls tgt) from (hm.get 6 65 (by kernel_rfl))) fun A2 h28 => ?_; refine Exists.elim h28 fun c2 h29 => ?_; have g2 := eval_getD h29.1; have h1 := eval_getD (hm.get 0 59 (by kernel_rfl)); unfold Oper.wp; simp only [execOp]; go_simp; refine (CS.out w hb A1 c1 A2 c2 h19.2 h29.2).mono ?_; rintro e w6 ⟨⟨A6, n6, c6, stp, rfl, hS, hz⟩, b6⟩; exact ⟨_, rfl, ⟨A6, n6, c6, stp, rfl, hS, hz⟩, b6⟩
            | (n + 8), hi, _ => absurd hi (by omega)

        refine Exists.elim (show ∃ (A' : Option Addr) (n' c' : Nat) (stp : List Fil), a.eval (.tmp 66) = .slice A' n' c' ∧ Sl w5 2 A' n' (fls stp) ∧ StepsN L cur tgt stp n' by cases ho; exact hm.get 7 66 (by kernel_rfl)) fun A9 he => ?_
        obtain ⟨n9, c10, stp, e1, hS9, hA9⟩ := he
        have H9 := Lib.hid (And.intro hS9 hA9)
        have hfr := hs.frame [59, 60, 61, 62, 63, 64, 65, 66, 9] (by kernel_rfl)
        have B5 := Lib.hid hb
        cases ho
        rw [hfr]
        simp only [List.foldl_cons, List.foldl_nil, e1]
        clear hfr hs hm e1 hb hS9 hA9
        generalize a.eval (.tmp 59) = u59
        generalize a.eval (.tmp 60) = u60
        generalize a.eval (.tmp 61) = u61
        generalize a.eval (.tmp 62) = u62
        generalize a.eval (.tmp 63) = u63
        generalize a.eval (.tmp 64) = u64
        generalize a.eval (.tmp 65) = u65
        unfold Oper.wp
        simp only [execOp]
        go_simp
        clear a
        go_wp2
        go_meet
        case rel => exact ⟨A9, n9, c10, stp, rfl, H9, B5⟩
      case rest =>
        obtain ⟨A9, n9, c10, stp, rfl, H9, hB6⟩ := hcut
        have HS6 := Lib.hid (HS.out.step hB6.out)
        have HG6 := Lib.hid (HG.out.step hB6.out)
        have B6 := Lib.hid (bstep B5.out hB6.out)
        have HLen := Lib.hid (steps_lens H9.out.2.1 HS.out.disk.name HC.out.2.2 HD.out.2.2)
        have hn9 := H9.out.2.2
        simp only [maxLen] at hn9
        clear CM CT CS HS HG rg3 hB6
        obtain ⟨we, hwe⟩ : ∃ we, we = wc := ⟨_, rfl⟩
        subst hwe
        go_wp2
        go_loopw [10] (fun iv W => ∃ k : Nat, k ≤ n9 ∧ iv = .int .i64 k ∧ Hid (Below we.heap.size we W)) (fun iv _ => n9 - (intOf iv).toNat)
        case atStart => exact ⟨0, Nat.zero_le _, rfl, Lib.hid (Below.refl _ _)⟩
        case round =>
          obtain ⟨k9, hk, rfl, hB7⟩ := hrel
          by_cases hlt : k9 < n9
          · obtain ⟨b9, off, y, rfl, hbw, hy, x0, _⟩ := H9.out.1.fil hlt
            have HY0 : Hid (∀ V, Below we.heap.size we V → V.cell? ⟨b9, off + k9 * 2, none⟩ = some (S y.1)) := Lib.hid (fun V hV => (World.cell?_of_block (hV.block b9 hbw)).trans x0)
            have y0 := HY0.out wr hB7.out
            have hym := List.mem_of_getElem? hy
            have hyl := HLen.out y hym
            have CG := Lib.hid (wget_any wr p mp nn cap L y.1 (HS6.out.disk.step hB7.out) hyl (HM.out.step (bstep B6.out hB7.out)))
            have HH := Lib.hid (fun h3 h1 => held_all HL0.out H9.out.2.1 hym h3 h1)
            obtain ⟨E, hE⟩ : ∃ E, E = getE L y.1 := ⟨_, rfl⟩
            rw [← hE] at CG HH
            clear hE hy hym x0 hbw
            have hways : (E == 3) = true ∨ ((E == 3) = false ∧ (E == 1) = true) ∨ ((E == 3) = false ∧ (E == 1) = false ∧ E ≠ 3 ∧ E ≠ 1) := by
              by_cases h1 : E = 3
              · exact .inl (by rw [h1]; rfl)
              · by_cases h2 : E = 1
                · exact .inr (.inl ⟨beq_eq_false_iff_ne.2 h1, by rw [h2]; rfl⟩)
                · exact .inr (.inr ⟨beq_eq_false_iff_ne.2 h1, beq_eq_false_iff_ne.2 h2, h1, h2⟩)
            go_wp2_with fail
            refine CG.out.mono ?_
            rintro e w8 ⟨A8, k8, c8, rfl, hO8⟩
            have HO8 := Lib.hid hO8
            have B8 := Lib.hid (bstep hB7.out hO8.2)
            clear hO8 CG
            rcases hways with d1 | ⟨d1, d2⟩ | ⟨d1, d2, n3, n1⟩
            · go_wp2
              go_roundw
              case rel => exact ⟨k9 + 1, hlt, by go_num, B8⟩
              case measure => simp [intOf]; omega
            · go_wp2
              go_roundw
              case rel => exact ⟨k9 + 1, hlt, by go_num, B8⟩
              case measure => simp [intOf]; omega
            obtain ⟨hE0, hheld⟩ := HH.out n3 n1
            subst hE0
            have y8 := HY0.out w8 B8.out
            obtain ⟨ni, _, hI⟩ := HS6.out.idx
            have CFi := Lib.hid (find_any w8 q mi ni li y.1 0 (hI.step B8.out) ⟨by simp only [maxLen]; omega, show (Lit.int .i64 0).wf = true by decide⟩)
            obtain ⟨own, hown⟩ : ∃ own, own = widL (getB L y.1) := ⟨_, rfl⟩
            rw [← hown] at hheld
            have Hheld := Lib.hid hheld
            have Hown := Lib.hid hown
            clear hheld hown n3 n1 HH d1 d2 hI
            go_wp2_with fail
            refine CFi.out.mono ?_
            rintro e wf ⟨rfl, bf⟩
            have Bf := Lib.hid (bstep B8.out bf)
            have HO9 := Lib.hid (HO8.out.keep bf)
            clear bf CFi
            obtain ⟨fo, hfo⟩ : ∃ fo, fo = IdxLaw.find li (y.1, 0) := ⟨_, rfl⟩
            rw [← hfo]
            have Hfo := Lib.hid hfo
            clear hfo
            obtain ⟨z, hz⟩ : ∃ z, z = fo.getD IdxLaw.zE := ⟨_, rfl⟩
            rw [← hz]
            have Hz := Lib.hid hz
            clear hz
            obtain ⟨isS, his⟩ : ∃ isS, isS = fo.isSome := ⟨_, rfl⟩
            rw [← his]
            have His := Lib.hid his
            clear his
            obtain ⟨g3, hg3⟩ : ∃ g3, g3 = wf.heap.size := ⟨_, rfl⟩
            obtain ⟨eid, heid⟩ : ∃ eid, eid = z.id := ⟨_, rfl⟩
            obtain ⟨wg, hwg⟩ : ∃ wg, wg = wf.alloc (.cells #[S z.path, I z.stage, S z.id, I z.size, I z.stamp] 54) := ⟨_, rfl⟩
            have HE3 : Hid (Blk wg g3 54 #[S z.path, I z.stage, S eid, I z.size, I z.stamp]) := Lib.hid (by rw [hwg, hg3, heid]; exact Blk.new wf _ _)
            have Bg : Hid (Below we.heap.size we wg) := Lib.hid (by rw [hwg]; exact balloc Bf.out _)
            have HOg := Lib.hid (show Ow wr wg 5 1 A8 k8 c8 (u8s (getB L y.1)) by rw [hwg]; exact HO9.out.alloc _)
            have hgl : (getB L y.1).length ≤ 1000000000 := getB_len Hc.out.2 y.1
            have CI := Lib.hid (wid_any A8 k8 c8 (getB L y.1) wg HOg.out.sl (by have := HOg.out.len; simp [u8s] at this; omega))
            rw [← Hown.out] at CI
            have Heid := Lib.hid heid
            clear heid hgl
            go_wp2_with fail
            rw [← hwg]
            simp only [← hg3]
            clear hwg hg3
            refine CI.out.mono ?_
            rintro e wx ⟨rfl, bx⟩
            have hBx := Lib.hid (bstep Bg.out bx)
            have HE3' := Lib.hid (HE3.out.step bx)
            clear bx CI y0 y8
            have HE3 := HE3'
            clear HE3'
            have HY := Lib.hid (fun V (hV : Below wx.heap.size wx V) => HY0.out V (bstep hBx.out hV))
            have HG := Lib.hid (HG6.out.step hBx.out)
            have CM := Lib.hid (fun V (hV : Below wx.heap.size wx V) => mine20_any V C jn c9 cur (HC.out.1.below (bstep (bstep B6.out hBx.out) hV)) (by have := HC.out.2.1; omega))
            have hcases : (isS = true ∧ eid = own) ∨ (isS = false ∧ fid cur y.1 = own) ∨ (isS = true ∧ eid ≠ own ∧ fid cur y.1 = own) := by
              have h1 := Hheld.out
              unfold isIdx at h1
              rw [← Hfo.out] at h1
              rw [His.out, Heid.out, Hz.out]
              cases fo with
              | none => exact .inr (.inl ⟨rfl, by simpa using h1⟩)
              | some e9 =>
                by_cases he : e9.id = own
                · exact .inl ⟨rfl, he⟩
                · exact .inr (.inr ⟨rfl, he, by simpa [he] using h1⟩)
            have hk9n : (k9 : Int) < (n9 : Int) := by omega
            go_wp2
            rcases hcases with ⟨rfl, rfl⟩ | ⟨rfl, hf⟩ | ⟨rfl, hne, hf⟩
            · refine wp_region_guards (by kernel_rfl) 24 (by kernel_rfl) ?_ (wh15aPhi g3 eid eid) wh15aPhi_mono (fun i9 o hi ho a w hb hs hm => ?_) (fun o ho a w5 hb hs hm => ?_)
              · exact dst_ltC2 (n := 127) (by kernel_rfl)
              · exact match i9, hi, ho with
                  | 0, _, ho => by
                      cases ho
                      rw [if_pos (wanted_none _ rfl)]
                      refine wp_value (st_move rfl ((hs.keeps (by kernel_rfl)).trans rfl)) ⟨_, rfl, rfl, Below.refl _ _⟩
                  | 1, _, ho => by
                      cases ho
                      rw [if_pos (wanted_none _ rfl)]
                      have h1 := eval_getD (hm.get 0 102 (by kernel_rfl)); unfold Oper.wp; simp only [execOp]; go_simp; exact ⟨_, rfl, (by first | rfl | simp), Below.refl _ _⟩
                  | 2, _, ho => by
                      cases ho
                      rw [if_pos (wanted_none _ rfl)]
                      refine wp_value (st_move rfl (hm.get 1 103 (by kernel_rfl))) ⟨_, rfl, rfl, Below.refl _ _⟩
                  | 3, _, ho => by
                      cases ho
                      generalize hW : Region.wanted _ _ = W
                      obtain rfl : W = (false == false) := hW.symm.trans (wanted_of rfl rfl rfl (show a.eval (.tmp 104) = .bool false from (hm.get 2 104 (by kernel_rfl))))
                      clear hW
                      rw [if_pos (show (false == false) = true by decide)]
                      refine wp_value (st_move rfl ((hs.keeps (by kernel_rfl)).trans rfl)) ⟨_, rfl, rfl, Below.refl _ _⟩
                  | 4, _, ho => by
                      cases ho
                      generalize hW : Region.wanted _ _ = W
                      obtain rfl : W = (false == false) := hW.symm.trans (wanted_of rfl rfl rfl (show a.eval (.tmp 104) = .bool false from (hm.get 2 104 (by kernel_rfl))))
                      clear hW
                      rw [if_pos (show (false == false) = true by decide)]
                      refine wp_value (st_move rfl (hm.get 3 105 (by kernel_rfl))) ⟨_, rfl, rfl, Below.refl _ _⟩
                  | 5, _, ho => by
                      cases ho
                      generalize hW : Region.wanted _ _ = W
                      obtain rfl : W = (true == true) := hW.symm.trans (wanted_of rfl rfl rfl (show a.eval (.tmp 106) = .bool true from (hm.get 4 106 (by kernel_rfl))))
                      clear hW
                      rw [if_pos (show (true == true) = true by decide)]
                      refine wp_value (st_field rfl ((hs.keeps (by kernel_rfl)).trans rfl) (by kernel_rfl)) ⟨_, rfl, rfl, Below.refl _ _⟩
                  | 6, _, ho => by
                      cases ho
                      generalize hW : Region.wanted _ _ = W
                      obtain rfl : W = (true == true) := hW.symm.trans (wanted_of rfl rfl rfl (show a.eval (.tmp 106) = .bool true from (hm.get 4 106 (by kernel_rfl))))
                      clear hW
                      rw [if_pos (show (true == true) = true by decide)]
                      have hx : w.cell? ⟨g3, 2, none⟩ = some (S eid) := (HE3.out.step hb).cell 2; refine wp_value (st_load rfl (hm.get 5 107 (by kernel_rfl)) (by go_simp)) ⟨_, rfl, rfl, Below.refl _ _⟩
                  | 7, _, ho => by
                      cases ho
                      generalize hW : Region.wanted _ _ = W
                      obtain rfl : W = (true == true) := hW.symm.trans (wanted_of rfl rfl rfl (show a.eval (.tmp 106) = .bool true from (hm.get 4 106 (by kernel_rfl))))
                      clear hW
                      rw [if_pos (show (true == true) = true by decide)]
                      refine wp_value (st_move rfl ((hs.keeps (by kernel_rfl)).trans rfl)) ⟨_, rfl, rfl, Below.refl _ _⟩
                  | 8, _, ho => by
                      cases ho
                      generalize hW : Region.wanted _ _ = W
                      obtain rfl : W = (true == true) := hW.symm.trans (wanted_of rfl rfl rfl (show a.eval (.tmp 106) = .bool true from (hm.get 4 106 (by kernel_rfl))))
                      clear hW
                      rw [if_pos (show (true == true) = true by decide)]
                      have h1 := eval_getD (hm.get 6 108 (by kernel_rfl)); have h2 := eval_getD (hm.get 7 109 (by kernel_rfl)); unfold Oper.wp; simp only [execOp]; go_simp; exact ⟨_, rfl, (by first | rfl | simp), Below.refl _ _⟩
                  | 9, _, ho => by
                      cases ho
                      generalize hW : Region.wanted _ _ = W
                      obtain rfl : W = (false == false) := hW.symm.trans (wanted_of rfl rfl rfl (show a.eval (.tmp 104) = .bool false from (hm.get 2 104 (by kernel_rfl))))
                      clear hW
                      rw [if_pos (show (false == false) = true by decide)]
                      have h1 := eval_getD (hm.get 4 106 (by kernel_rfl)); have h3 := eval_getD (hm.get 8 110 (by kernel_rfl)); unfold Oper.wp; simp only [execOp]; go_simp; exact ⟨_, rfl, rfl, Below.refl _ _⟩
                  | 10, _, ho => by
                      cases ho
                      generalize hW : Region.wanted _ _ = W
                      obtain rfl : W = (false == false) := hW.symm.trans (wanted_of rfl rfl rfl (show a.eval (.tmp 104) = .bool false from (hm.get 2 104 (by kernel_rfl))))
                      clear hW
                      rw [if_pos (show (false == false) = true by decide)]
                      have h1 := eval_getD (hm.get 9 111 (by kernel_rfl)); unfold Oper.wp; simp only [execOp]; go_simp; exact ⟨_, rfl, rfl, Below.refl _ _⟩
                  | 11, _, ho => by
                      cases ho
                      generalize hW : Region.wanted _ _ = W
                      obtain rfl : W = (false == false) := hW.symm.trans (wanted_of rfl rfl rfl (show a.eval (.tmp 104) = .bool false from (hm.get 2 104 (by kernel_rfl))))
                      clear hW
                      rw [if_pos (show (false == false) = true by decide)]
                      refine wp_value (st_move rfl (hm.get 10 112 (by kernel_rfl))) ⟨_, rfl, rfl, Below.refl _ _⟩
                  | 12, _, ho => by
                      cases ho
                      generalize hW : Region.wanted _ _ = W
                      obtain rfl : W = (false == true) := hW.symm.trans (wanted_of rfl rfl rfl (show a.eval (.tmp 113) = .bool false from (hm.get 11 113 (by kernel_rfl))))
                      clear hW
                      rw [if_neg (show ¬ (false == true) = true by decide)]
                      exact rfl
                  | 13, _, ho => by
                      cases ho
                      generalize hW : Region.wanted _ _ = W
                      obtain rfl : W = (false == true) := hW.symm.trans (wanted_of rfl rfl rfl (show a.eval (.tmp 113) = .bool false from (hm.get 11 113 (by kernel_rfl))))
                      clear hW
                      rw [if_neg (show ¬ (false == true) = true by decide)]
                      exact rfl
                  | 14, _, ho => by
                      cases ho
                      generalize hW : Region.wanted _ _ = W
                      obtain rfl : W = (false == true) := hW.symm.trans (wanted_of rfl rfl rfl (show a.eval (.tmp 113) = .bool false from (hm.get 11 113 (by kernel_rfl))))
                      clear hW
                      rw [if_neg (show ¬ (false == true) = true by decide)]
                      exact rfl
                  | 15, _, ho => by
                      cases ho
                      generalize hW : Region.wanted _ _ = W
                      obtain rfl : W = (false == true) := hW.symm.trans (wanted_of rfl rfl rfl (show a.eval (.tmp 113) = .bool false from (hm.get 11 113 (by kernel_rfl))))
                      clear hW
                      rw [if_neg (show ¬ (false == true) = true by decide)]
                      exact rfl
                  | 16, _, ho => by
                      cases ho
                      generalize hW : Region.wanted _ _ = W
                      obtain rfl : W = (false == true) := hW.symm.trans (wanted_of rfl rfl rfl (show a.eval (.tmp 113) = .bool false from (hm.get 11 113 (by kernel_rfl))))
                      clear hW
                      rw [if_neg (show ¬ (false == true) = true by decide)]
                      exact rfl
                  | 17, _, ho => by
                      cases ho
                      generalize hW : Region.wanted _ _ = W
                      obtain rfl : W = (false == true) := hW.symm.trans (wanted_of rfl rfl rfl (show a.eval (.tmp 113) = .bool false from (hm.get 11 113 (by kernel_rfl))))
                      clear hW
                      rw [if_neg (show ¬ (false == true) = true by decide)]
                      exact rfl
                  | 18, _, ho => by
                      cases ho
                      generalize hW : Region.wanted _ _ = W
                      obtain rfl : W = (false == true) := hW.symm.trans (wanted_of rfl rfl rfl (show a.eval (.tmp 113) = .bool false from (hm.get 11 113 (by kernel_rfl))))
                      clear hW
                      rw [if_neg (show ¬ (false == true) = true by decide)]
                      exact rfl
                  | 19, _, ho => by
                      cases ho
                      generalize hW : Region.wanted _ _ = W
                      obtain rfl : W = (false == true) := hW.symm.trans (wanted_of rfl rfl rfl (show a.eval (.tmp 113) = .bool false from (hm.get 11 113 (by kernel_rfl))))
                      clear hW
                      rw [if_neg (show ¬ (false == true) = true by decide)]
                      exact rfl
                  | 20, _, ho => by
                      cases ho
                      generalize hW : Region.wanted _ _ = W
                      obtain rfl : W = (false == true) := hW.symm.trans (wanted_of rfl rfl rfl (show a.eval (.tmp 113) = .bool false from (hm.get 11 113 (by kernel_rfl))))
                      clear hW
                      rw [if_neg (show ¬ (false == true) = true by decide)]
                      exact rfl
                  | 21, _, ho => by
                      cases ho
                      generalize hW : Region.wanted _ _ = W
                      obtain rfl : W = (false == true) := hW.symm.trans (wanted_of rfl rfl rfl (show a.eval (.tmp 113) = .bool false from (hm.get 11 113 (by kernel_rfl))))
                      clear hW
                      rw [if_neg (show ¬ (false == true) = true by decide)]
                      exact rfl
                  | 22, _, ho => by
                      cases ho
                      generalize hW : Region.wanted _ _ = W
                      obtain rfl : W = (false == true) := hW.symm.trans (wanted_of rfl rfl rfl (show a.eval (.tmp 113) = .bool false from (hm.get 11 113 (by kernel_rfl))))
                      clear hW
                      rw [if_neg (show ¬ (false == true) = true by decide)]
                      exact rfl
                  | 23, _, ho => by
                      cases ho
                      generalize hW : Region.wanted _ _ = W
                      obtain rfl : W = (false == false) := hW.symm.trans (wanted_of rfl rfl rfl (show a.eval (.tmp 104) = .bool false from (hm.get 2 104 (by kernel_rfl))))
                      clear hW
                      rw [if_pos (show (false == false) = true by decide)]
                      have h1 := eval_getD (hm.get 11 113 (by kernel_rfl)); unfold Oper.wp; simp only [execOp]; go_simp; exact ⟨_, rfl, rfl, Below.refl _ _⟩
                  | (n + 24), hi, _ => absurd hi (by omega)

              have e1 : a.eval (.tmp 104) = .bool false := by cases ho; exact hm.get 2 104 (by kernel_rfl)
              have e2 : a.eval (.tmp 125) = .bool false := by cases ho; exact hm.get 23 125 (by kernel_rfl)
              have hfr := hs.frame [102, 103, 104, 105, 106, 107, 108, 109, 110, 111, 112, 113, 114, 115, 116, 117, 118, 119, 120, 121, 122, 123, 124, 125, 126] (by kernel_rfl)
              have B9 := Lib.hid hb
              cases ho
              rw [hfr]
              simp only [List.foldl_cons, List.foldl_nil, e1, e2]
              clear hfr hs hm e1 e2 hb
              generalize a.eval (.tmp 102) = u102
              generalize a.eval (.tmp 103) = u103
              generalize a.eval (.tmp 105) = u105
              generalize a.eval (.tmp 106) = u106
              generalize a.eval (.tmp 107) = u107
              generalize a.eval (.tmp 108) = u108
              generalize a.eval (.tmp 109) = u109
              generalize a.eval (.tmp 110) = u110
              generalize a.eval (.tmp 111) = u111
              generalize a.eval (.tmp 112) = u112
              generalize a.eval (.tmp 113) = u113
              generalize a.eval (.tmp 114) = u114
              generalize a.eval (.tmp 115) = u115
              generalize a.eval (.tmp 116) = u116
              generalize a.eval (.tmp 117) = u117
              generalize a.eval (.tmp 118) = u118
              generalize a.eval (.tmp 119) = u119
              generalize a.eval (.tmp 120) = u120
              generalize a.eval (.tmp 121) = u121
              generalize a.eval (.tmp 122) = u122
              generalize a.eval (.tmp 123) = u123
              generalize a.eval (.tmp 124) = u124
              generalize a.eval (.tmp 126) = u126
              unfold Oper.wp
              simp only [execOp]
              go_simp
              clear a
              go_wp2
              go_roundw
              case rel => exact ⟨k9 + 1, hlt, by go_num, Lib.hid (bstep hBx.out B9.out)⟩
              case measure => simp [intOf]; omega
            · have CF := Lib.hid (fun V (hV : Below wx.heap.size wx V) (A1 : Option Addr) (c1 : Nat) (hS1 : Sl V 2 A1 jn (fls cur)) => treeFind_any A1 jn c1 cur y.1 V hS1 (by have := HC.out.2.1; omega))
              rw [hf] at CF
              refine wp_region_guards (by kernel_rfl) 24 (by kernel_rfl) ?_ (wh15bPhi g1 b9 off k9 n9 c10 C jn c9 cur y.1 own) wh15bPhi_mono (fun i9 o hi ho a w hb hs hm => ?_) (fun o ho a w5 hb hs hm => ?_)
              · exact dst_ltC2 (n := 127) (by kernel_rfl)
              · exact match i9, hi, ho with
                  | 0, _, ho => by
                      cases ho
                      rw [if_pos (wanted_none _ rfl)]
                      refine wp_value (st_move rfl ((hs.keeps (by kernel_rfl)).trans rfl)) ⟨_, rfl, rfl, Below.refl _ _⟩
                  | 1, _, ho => by
                      cases ho
                      rw [if_pos (wanted_none _ rfl)]
                      have h1 := eval_getD (hm.get 0 102 (by kernel_rfl)); unfold Oper.wp; simp only [execOp]; go_simp; exact ⟨_, rfl, (by first | rfl | simp), Below.refl _ _⟩
                  | 2, _, ho => by
                      cases ho
                      rw [if_pos (wanted_none _ rfl)]
                      refine wp_value (st_move rfl (hm.get 1 103 (by kernel_rfl))) ⟨_, rfl, rfl, Below.refl _ _⟩
                  | 3, _, ho => by
                      cases ho
                      generalize hW : Region.wanted _ _ = W
                      obtain rfl : W = (false == false) := hW.symm.trans (wanted_of rfl rfl rfl (show a.eval (.tmp 104) = .bool false from (hm.get 2 104 (by kernel_rfl))))
                      clear hW
                      rw [if_pos (show (false == false) = true by decide)]
                      refine wp_value (st_move rfl ((hs.keeps (by kernel_rfl)).trans rfl)) ⟨_, rfl, rfl, Below.refl _ _⟩
                  | 4, _, ho => by
                      cases ho
                      generalize hW : Region.wanted _ _ = W
                      obtain rfl : W = (false == false) := hW.symm.trans (wanted_of rfl rfl rfl (show a.eval (.tmp 104) = .bool false from (hm.get 2 104 (by kernel_rfl))))
                      clear hW
                      rw [if_pos (show (false == false) = true by decide)]
                      refine wp_value (st_move rfl (hm.get 3 105 (by kernel_rfl))) ⟨_, rfl, rfl, Below.refl _ _⟩
                  | 5, _, ho => by
                      cases ho
                      generalize hW : Region.wanted _ _ = W
                      obtain rfl : W = (false == true) := hW.symm.trans (wanted_of rfl rfl rfl (show a.eval (.tmp 106) = .bool false from (hm.get 4 106 (by kernel_rfl))))
                      clear hW
                      rw [if_neg (show ¬ (false == true) = true by decide)]
                      exact rfl
                  | 6, _, ho => by
                      cases ho
                      generalize hW : Region.wanted _ _ = W
                      obtain rfl : W = (false == true) := hW.symm.trans (wanted_of rfl rfl rfl (show a.eval (.tmp 106) = .bool false from (hm.get 4 106 (by kernel_rfl))))
                      clear hW
                      rw [if_neg (show ¬ (false == true) = true by decide)]
                      exact rfl
                  | 7, _, ho => by
                      cases ho
                      generalize hW : Region.wanted _ _ = W
                      obtain rfl : W = (false == true) := hW.symm.trans (wanted_of rfl rfl rfl (show a.eval (.tmp 106) = .bool false from (hm.get 4 106 (by kernel_rfl))))
                      clear hW
                      rw [if_neg (show ¬ (false == true) = true by decide)]
                      exact rfl
                  | 8, _, ho => by
                      cases ho
                      generalize hW : Region.wanted _ _ = W
                      obtain rfl : W = (false == true) := hW.symm.trans (wanted_of rfl rfl rfl (show a.eval (.tmp 106) = .bool false from (hm.get 4 106 (by kernel_rfl))))
                      clear hW
                      rw [if_neg (show ¬ (false == true) = true by decide)]
                      exact rfl
                  | 9, _, ho => by
                      cases ho
                      generalize hW : Region.wanted _ _ = W
                      obtain rfl : W = (false == false) := hW.symm.trans (wanted_of rfl rfl rfl (show a.eval (.tmp 104) = .bool false from (hm.get 2 104 (by kernel_rfl))))
                      clear hW
                      rw [if_pos (show (false == false) = true by decide)]
                      have h1 := eval_getD (hm.get 4 106 (by kernel_rfl)); unfold Oper.wp; simp only [execOp]; go_simp; exact ⟨_, rfl, rfl, Below.refl _ _⟩
                  | 10, _, ho => by
                      cases ho
                      generalize hW : Region.wanted _ _ = W
                      obtain rfl : W = (false == false) := hW.symm.trans (wanted_of rfl rfl rfl (show a.eval (.tmp 104) = .bool false from (hm.get 2 104 (by kernel_rfl))))
                      clear hW
                      rw [if_pos (show (false == false) = true by decide)]
                      have h1 := eval_getD (hm.get 9 111 (by kernel_rfl)); unfold Oper.wp; simp only [execOp]; go_simp; exact ⟨_, rfl, rfl, Below.refl _ _⟩
                  | 11, _, ho => by
                      cases ho
                      generalize hW : Region.wanted _ _ = W
                      obtain rfl : W = (false == false) := hW.symm.trans (wanted_of rfl rfl rfl (show a.eval (.tmp 104) = .bool false from (hm.get 2 104 (by kernel_rfl))))
                      clear hW
                      rw [if_pos (show (false == false) = true by decide)]
                      refine wp_value (st_move rfl (hm.get 10 112 (by kernel_rfl))) ⟨_, rfl, rfl, Below.refl _ _⟩
                  | 12, _, ho => by
                      cases ho
                      generalize hW : Region.wanted _ _ = W
                      obtain rfl : W = (true == true) := hW.symm.trans (wanted_of rfl rfl rfl (show a.eval (.tmp 113) = .bool true from (hm.get 11 113 (by kernel_rfl))))
                      clear hW
                      rw [if_pos (show (true == true) = true by decide)]
                      refine wp_value (st_field rfl ((hs.keeps (by kernel_rfl)).trans rfl) (by kernel_rfl)) ⟨_, rfl, rfl, Below.refl _ _⟩
                  | 13, _, ho => by
                      cases ho
                      generalize hW : Region.wanted _ _ = W
                      obtain rfl : W = (true == true) := hW.symm.trans (wanted_of rfl rfl rfl (show a.eval (.tmp 113) = .bool true from (hm.get 11 113 (by kernel_rfl))))
                      clear hW
                      rw [if_pos (show (true == true) = true by decide)]
                      have hx : w.cell? ⟨g1, 3, none⟩ = some (.slice C jn c9) := (HG.out.step hb).cell 3; refine wp_value (st_load rfl (hm.get 12 114 (by kernel_rfl)) (by go_simp)) ⟨_, rfl, rfl, Below.refl _ _⟩
                  | 14, _, ho => by
                      cases ho
                      generalize hW : Region.wanted _ _ = W
                      obtain rfl : W = (true == true) := hW.symm.trans (wanted_of rfl rfl rfl (show a.eval (.tmp 113) = .bool true from (hm.get 11 113 (by kernel_rfl))))
                      clear hW
                      rw [if_pos (show (true == true) = true by decide)]
                      have h1 := eval_getD (hm.get 13 115 (by kernel_rfl)); unfold Oper.wp; simp only [execOp]; go_simp; refine (CM.out w hb).mono ?_; rintro e w6 ⟨A6, c6, rfl, hO6⟩; exact ⟨_, rfl, ⟨A6, c6, rfl, hO6.sl⟩, hO6.2⟩
                  | 15, _, ho => by
                      cases ho
                      generalize hW : Region.wanted _ _ = W
                      obtain rfl : W = (true == true) := hW.symm.trans (wanted_of rfl rfl rfl (show a.eval (.tmp 113) = .bool true from (hm.get 11 113 (by kernel_rfl))))
                      clear hW
                      rw [if_pos (show (true == true) = true by decide)]
                      refine wp_value (st_move rfl ((hs.keeps (by kernel_rfl)).trans rfl)) ⟨_, rfl, rfl, Below.refl _ _⟩
                  | 16, _, ho => by
                      cases ho
                      generalize hW : Region.wanted _ _ = W
                      obtain rfl : W = (true == true) := hW.symm.trans (wanted_of rfl rfl rfl (show a.eval (.tmp 113) = .bool true from (hm.get 11 113 (by kernel_rfl))))
                      clear hW
                      rw [if_pos (show (true == true) = true by decide)]
                      refine wp_value (st_move rfl ((hs.keeps (by kernel_rfl)).trans rfl)) ⟨_, rfl, rfl, Below.refl _ _⟩
                  | 17, _, ho => by
                      cases ho
                      generalize hW : Region.wanted _ _ = W
                      obtain rfl : W = (true == true) := hW.symm.trans (wanted_of rfl rfl rfl (show a.eval (.tmp 113) = .bool true from (hm.get 11 113 (by kernel_rfl))))
                      clear hW
                      rw [if_pos (show (true == true) = true by decide)]
                      have h1 := eval_getD (hm.get 15 117 (by kernel_rfl)); have h2 := eval_getD (hm.get 16 118 (by kernel_rfl)); unfold Oper.wp; simp only [execOp]; go_simp; exact ⟨_, rfl, rfl, Below.refl _ _⟩
                  | 18, _, ho => by
                      cases ho
                      generalize hW : Region.wanted _ _ = W
                      obtain rfl : W = (true == true) := hW.symm.trans (wanted_of rfl rfl rfl (show a.eval (.tmp 113) = .bool true from (hm.get 11 113 (by kernel_rfl))))
                      clear hW
                      rw [if_pos (show (true == true) = true by decide)]
                      refine wp_value (st_field rfl (hm.get 17 119 (by kernel_rfl)) (by kernel_rfl)) ⟨_, rfl, rfl, Below.refl _ _⟩
                  | 19, _, ho => by
                      cases ho
                      generalize hW : Region.wanted _ _ = W
                      obtain rfl : W = (true == true) := hW.symm.trans (wanted_of rfl rfl rfl (show a.eval (.tmp 113) = .bool true from (hm.get 11 113 (by kernel_rfl))))
                      clear hW
                      rw [if_pos (show (true == true) = true by decide)]
                      have hx := HY.out w hb; have h1 := eval_getD (hm.get 18 120 (by kernel_rfl)); unfold Oper.wp; simp only [execOp]; go_simp; exact ⟨_, rfl, rfl, Below.refl _ _⟩
                  | 20, _, ho => by
                      cases ho
                      generalize hW : Region.wanted _ _ = W
                      obtain rfl : W = (true == true) := hW.symm.trans (wanted_of rfl rfl rfl (show a.eval (.tmp 113) = .bool true from (hm.get 11 113 (by kernel_rfl))))
                      clear hW
                      rw [if_pos (show (true == true) = true by decide)]
                      refine Exists.elim (show ∃ (A' : Option Addr) (c' : Nat), a.eval (.tmp 116) = .slice A' jn c' ∧ Sl w 2 A' jn (fls cur) from (hm.get 14 116 (by kernel_rfl))) fun A1 h18 => ?_; refine Exists.elim h18 fun c1 h19 => ?_; have g1 := eval_getD h19.1; have h1 := eval_getD (hm.get 19 121 (by kernel_rfl)); unfold Oper.wp; simp only [execOp]; go_simp; refine (CF.out w hb A1 c1 h19.2).mono ?_; rintro e w6 ⟨rfl, b6⟩; exact ⟨_, rfl, rfl, b6⟩
                  | 21, _, ho => by
                      cases ho
                      generalize hW : Region.wanted _ _ = W
                      obtain rfl : W = (true == true) := hW.symm.trans (wanted_of rfl rfl rfl (show a.eval (.tmp 113) = .bool true from (hm.get 11 113 (by kernel_rfl))))
                      clear hW
                      rw [if_pos (show (true == true) = true by decide)]
                      refine wp_value (st_move rfl ((hs.keeps (by kernel_rfl)).trans rfl)) ⟨_, rfl, rfl, Below.refl _ _⟩
                  | 22, _, ho => by
                      cases ho
                      generalize hW : Region.wanted _ _ = W
                      obtain rfl : W = (true == true) := hW.symm.trans (wanted_of rfl rfl rfl (show a.eval (.tmp 113) = .bool true from (hm.get 11 113 (by kernel_rfl))))
                      clear hW
                      rw [if_pos (show (true == true) = true by decide)]
                      have h1 := eval_getD (hm.get 20 122 (by kernel_rfl)); have h2 := eval_getD (hm.get 21 123 (by kernel_rfl)); unfold Oper.wp; simp only [execOp]; go_simp; exact ⟨_, rfl, (by first | rfl | simp), Below.refl _ _⟩
                  | 23, _, ho => by
                      cases ho
                      generalize hW : Region.wanted _ _ = W
                      obtain rfl : W = (false == false) := hW.symm.trans (wanted_of rfl rfl rfl (show a.eval (.tmp 104) = .bool false from (hm.get 2 104 (by kernel_rfl))))
                      clear hW
                      rw [if_pos (show (false == false) = true by decide)]
                      have h1 := eval_getD (hm.get 11 113 (by kernel_rfl)); have h3 := eval_getD (hm.get 22 124 (by kernel_rfl)); unfold Oper.wp; simp only [execOp]; go_simp; exact ⟨_, rfl, rfl, Below.refl _ _⟩
                  | (n + 24), hi, _ => absurd hi (by omega)

              have e1 : a.eval (.tmp 104) = .bool false := by cases ho; exact hm.get 2 104 (by kernel_rfl)
              have e2 : a.eval (.tmp 125) = .bool false := by cases ho; exact hm.get 23 125 (by kernel_rfl)
              have hfr := hs.frame [102, 103, 104, 105, 106, 107, 108, 109, 110, 111, 112, 113, 114, 115, 116, 117, 118, 119, 120, 121, 122, 123, 124, 125, 126] (by kernel_rfl)
              have B9 := Lib.hid hb
              cases ho
              rw [hfr]
              simp only [List.foldl_cons, List.foldl_nil, e1, e2]
              clear hfr hs hm e1 e2 hb
              generalize a.eval (.tmp 102) = u102
              generalize a.eval (.tmp 103) = u103
              generalize a.eval (.tmp 105) = u105
              generalize a.eval (.tmp 106) = u106
              generalize a.eval (.tmp 107) = u107
              generalize a.eval (.tmp 108) = u108
              generalize a.eval (.tmp 109) = u109
              generalize a.eval (.tmp 110) = u110
              generalize a.eval (.tmp 111) = u111
              generalize a.eval (.tmp 112) = u112
              generalize a.eval (.tmp 113) = u113
              generalize a.eval (.tmp 114) = u114
              generalize a.eval (.tmp 115) = u115
              generalize a.eval (.tmp 116) = u116
              generalize a.eval (.tmp 117) = u117
              generalize a.eval (.tmp 118) = u118
              generalize a.eval (.tmp 119) = u119
              generalize a.eval (.tmp 120) = u120
              generalize a.eval (.tmp 121) = u121
              generalize a.eval (.tmp 122) = u122
              generalize a.eval (.tmp 123) = u123
              generalize a.eval (.tmp 124) = u124
              generalize a.eval (.tmp 126) = u126
              unfold Oper.wp
              simp only [execOp]
              go_simp
              clear a
              go_wp2
              go_roundw
              case rel => exact ⟨k9 + 1, hlt, by go_num, Lib.hid (bstep hBx.out B9.out)⟩
              case measure => simp [intOf]; omega
            · have CF := Lib.hid (fun V (hV : Below wx.heap.size wx V) (A1 : Option Addr) (c1 : Nat) (hS1 : Sl V 2 A1 jn (fls cur)) => treeFind_any A1 jn c1 cur y.1 V hS1 (by have := HC.out.2.1; omega))
              rw [hf] at CF
              have HNE : Hid ((eid == own) = false ∧ ((⟨eid.toArray⟩ : ByteArray) == ⟨own.toArray⟩) = false) := Lib.hid ⟨beq_eq_false_iff_ne.2 hne, ba_ne hne⟩
              refine wp_region_guards (by kernel_rfl) 24 (by kernel_rfl) ?_ (wh15cPhi g1 g3 b9 off k9 n9 c10 C jn c9 cur y.1 own eid) wh15cPhi_mono (fun i9 o hi ho a w hb hs hm => ?_) (fun o ho a w5 hb hs hm => ?_)
              · exact dst_ltC2 (n := 127) (by kernel_rfl)
              · exact match i9, hi, ho with
                  | 0, _, ho => by
                      cases ho
                      rw [if_pos (wanted_none _ rfl)]
                      refine wp_value (st_move rfl ((hs.keeps (by kernel_rfl)).trans rfl)) ⟨_, rfl, rfl, Below.refl _ _⟩
                  | 1, _, ho => by
                      cases ho
                      rw [if_pos (wanted_none _ rfl)]
                      have h1 := eval_getD (hm.get 0 102 (by kernel_rfl)); unfold Oper.wp; simp only [execOp]; go_simp; exact ⟨_, rfl, (by first | rfl | simp), Below.refl _ _⟩
                  | 2, _, ho => by
                      cases ho
                      rw [if_pos (wanted_none _ rfl)]
                      refine wp_value (st_move rfl (hm.get 1 103 (by kernel_rfl))) ⟨_, rfl, rfl, Below.refl _ _⟩
                  | 3, _, ho => by
                      cases ho
                      generalize hW : Region.wanted _ _ = W
                      obtain rfl : W = (false == false) := hW.symm.trans (wanted_of rfl rfl rfl (show a.eval (.tmp 104) = .bool false from (hm.get 2 104 (by kernel_rfl))))
                      clear hW
                      rw [if_pos (show (false == false) = true by decide)]
                      refine wp_value (st_move rfl ((hs.keeps (by kernel_rfl)).trans rfl)) ⟨_, rfl, rfl, Below.refl _ _⟩
                  | 4, _, ho => by
                      cases ho
                      generalize hW : Region.wanted _ _ = W
                      obtain rfl : W = (false == false) := hW.symm.trans (wanted_of rfl rfl rfl (show a.eval (.tmp 104) = .bool false from (hm.get 2 104 (by kernel_rfl))))
                      clear hW
                      rw [if_pos (show (false == false) = true by decide)]
                      refine wp_value (st_move rfl (hm.get 3 105 (by kernel_rfl))) ⟨_, rfl, rfl, Below.refl _ _⟩
                  | 5, _, ho => by
                      cases ho
                      generalize hW : Region.wanted _ _ = W
                      obtain rfl : W = (true == true) := hW.symm.trans (wanted_of rfl rfl rfl (show a.eval (.tmp 106) = .bool true from (hm.get 4 106 (by kernel_rfl))))
                      clear hW
                      rw [if_pos (show (true == true) = true by decide)]
                      refine wp_value (st_field rfl ((hs.keeps (by kernel_rfl)).trans rfl) (by kernel_rfl)) ⟨_, rfl, rfl, Below.refl _ _⟩
                  | 6, _, ho => by
                      cases ho
                      generalize hW : Region.wanted _ _ = W
                      obtain rfl : W = (true == true) := hW.symm.trans (wanted_of rfl rfl rfl (show a.eval (.tmp 106) = .bool true from (hm.get 4 106 (by kernel_rfl))))
                      clear hW
                      rw [if_pos (show (true == true) = true by decide)]
                      have hx : w.cell? ⟨g3, 2, none⟩ = some (S eid) := (HE3.out.step hb).cell 2; refine wp_value (st_load rfl (hm.get 5 107 (by kernel_rfl)) (by go_simp)) ⟨_, rfl, rfl, Below.refl _ _⟩
                  | 7, _, ho => by
                      cases ho
                      generalize hW : Region.wanted _ _ = W
                      obtain rfl : W = (true == true) := hW.symm.trans (wanted_of rfl rfl rfl (show a.eval (.tmp 106) = .bool true from (hm.get 4 106 (by kernel_rfl))))
                      clear hW
                      rw [if_pos (show (true == true) = true by decide)]
                      refine wp_value (st_move rfl ((hs.keeps (by kernel_rfl)).trans rfl)) ⟨_, rfl, rfl, Below.refl _ _⟩
                  | 8, _, ho => by
                      cases ho
                      generalize hW : Region.wanted _ _ = W
                      obtain rfl : W = (true == true) := hW.symm.trans (wanted_of rfl rfl rfl (show a.eval (.tmp 106) = .bool true from (hm.get 4 106 (by kernel_rfl))))
                      clear hW
                      rw [if_pos (show (true == true) = true by decide)]
                      have h1 := eval_getD (hm.get 6 108 (by kernel_rfl)); have h2 := eval_getD (hm.get 7 109 (by kernel_rfl)); unfold Oper.wp; simp only [execOp]; go_simp; exact ⟨_, rfl, (show Value.bool _ = Value.bool _ by first | rw [HNE.out.1] | rw [HNE.out.2] | simp [HNE.out.1]), Below.refl _ _⟩
                  | 9, _, ho => by
                      cases ho
                      generalize hW : Region.wanted _ _ = W
                      obtain rfl : W = (false == false) := hW.symm.trans (wanted_of rfl rfl rfl (show a.eval (.tmp 104) = .bool false from (hm.get 2 104 (by kernel_rfl))))
                      clear hW
                      rw [if_pos (show (false == false) = true by decide)]
                      have h1 := eval_getD (hm.get 4 106 (by kernel_rfl)); have h3 := eval_getD (hm.get 8 110 (by kernel_rfl)); unfold Oper.wp; simp only [execOp]; go_simp; exact ⟨_, rfl, rfl, Below.refl _ _⟩
                  | 10, _, ho => by
                      cases ho
                      generalize hW : Region.wanted _ _ = W
                      obtain rfl : W = (false == false) := hW.symm.trans (wanted_of rfl rfl rfl (show a.eval (.tmp 104) = .bool false from (hm.get 2 104 (by kernel_rfl))))
                      clear hW
                      rw [if_pos (show (false == false) = true by decide)]
                      have h1 := eval_getD (hm.get 9 111 (by kernel_rfl)); unfold Oper.wp; simp only [execOp]; go_simp; exact ⟨_, rfl, rfl, Below.refl _ _⟩
                  | 11, _, ho => by
                      cases ho
                      generalize hW : Region.wanted _ _ = W
                      obtain rfl : W = (false == false) := hW.symm.trans (wanted_of rfl rfl rfl (show a.eval (.tmp 104) = .bool false from (hm.get 2 104 (by kernel_rfl))))
                      clear hW
                      rw [if_pos (show (false == false) = true by decide)]
                      refine wp_value (st_move rfl (hm.get 10 112 (by kernel_rfl))) ⟨_, rfl, rfl, Below.refl _ _⟩
                  | 12, _, ho => by
                      cases ho
                      generalize hW : Region.wanted _ _ = W
                      obtain rfl : W = (true == true) := hW.symm.trans (wanted_of rfl rfl rfl (show a.eval (.tmp 113) = .bool true from (hm.get 11 113 (by kernel_rfl))))
                      clear hW
                      rw [if_pos (show (true == true) = true by decide)]
                      refine wp_value (st_field rfl ((hs.keeps (by kernel_rfl)).trans rfl) (by kernel_rfl)) ⟨_, rfl, rfl, Below.refl _ _⟩
                  | 13, _, ho => by
                      cases ho
                      generalize hW : Region.wanted _ _ = W
                      obtain rfl : W = (true == true) := hW.symm.trans (wanted_of rfl rfl rfl (show a.eval (.tmp 113) = .bool true from (hm.get 11 113 (by kernel_rfl))))
                      clear hW
                      rw [if_pos (show (true == true) = true by decide)]
                      have hx : w.cell? ⟨g1, 3, none⟩ = some (.slice C jn c9) := (HG.out.step hb).cell 3; refine wp_value (st_load rfl (hm.get 12 114 (by kernel_rfl)) (by go_simp)) ⟨_, rfl, rfl, Below.refl _ _⟩
                  | 14, _, ho => by
                      cases ho
                      generalize hW : Region.wanted _ _ = W
                      obtain rfl : W = (true == true) := hW.symm.trans (wanted_of rfl rfl rfl (show a.eval (.tmp 113) = .bool true from (hm.get 11 113 (by kernel_rfl))))
                      clear hW
                      rw [if_pos (show (true == true) = true by decide)]
                      have h1 := eval_getD (hm.get 13 115 (by kernel_rfl)); unfold Oper.wp; simp only [execOp]; go_simp; refine (CM.out w hb).mono ?_; rintro e w6 ⟨A6, c6, rfl, hO6⟩; exact ⟨_, rfl, ⟨A6, c6, rfl, hO6.sl⟩, hO6.2⟩
                  | 15, _, ho => by
                      cases ho
                      generalize hW : Region.wanted _ _ = W
                      obtain rfl : W = (true == true) := hW.symm.trans (wanted_of rfl rfl rfl (show a.eval (.tmp 113) = .bool true from (hm.get 11 113 (by kernel_rfl))))
                      clear hW
                      rw [if_pos (show (true == true) = true by decide)]
                      refine wp_value (st_move rfl ((hs.keeps (by kernel_rfl)).trans rfl)) ⟨_, rfl, rfl, Below.refl _ _⟩
                  | 16, _, ho => by
                      cases ho
                      generalize hW : Region.wanted _ _ = W
                      obtain rfl : W = (true == true) := hW.symm.trans (wanted_of rfl rfl rfl (show a.eval (.tmp 113) = .bool true from (hm.get 11 113 (by kernel_rfl))))
                      clear hW
                      rw [if_pos (show (true == true) = true by decide)]
                      refine wp_value (st_move rfl ((hs.keeps (by kernel_rfl)).trans rfl)) ⟨_, rfl, rfl, Below.refl _ _⟩
                  | 17, _, ho => by
                      cases ho
                      generalize hW : Region.wanted _ _ = W
                      obtain rfl : W = (true == true) := hW.symm.trans (wanted_of rfl rfl rfl (show a.eval (.tmp 113) = .bool true from (hm.get 11 113 (by kernel_rfl))))
                      clear hW
                      rw [if_pos (show (true == true) = true by decide)]
                      have h1 := eval_getD (hm.get 15 117 (by kernel_rfl)); have h2 := eval_getD (hm.get 16 118 (by kernel_rfl)); unfold Oper.wp; simp only [execOp]; go_simp; exact ⟨_, rfl, rfl, Below.refl _ _⟩
                  | 18, _, ho => by
                      cases ho
                      generalize hW : Region.wanted _ _ = W
                      obtain rfl : W = (true == true) := hW.symm.trans (wanted_of rfl rfl rfl (show a.eval (.tmp 113) = .bool true from (hm.get 11 113 (by kernel_rfl))))
                      clear hW
                      rw [if_pos (show (true == true) = true by decide)]
                      refine wp_value (st_field rfl (hm.get 17 119 (by kernel_rfl)) (by kernel_rfl)) ⟨_, rfl, rfl, Below.refl _ _⟩
                  | 19, _, ho => by
                      cases ho
                      generalize hW : Region.wanted _ _ = W
                      obtain rfl : W = (true == true) := hW.symm.trans (wanted_of rfl rfl rfl (show a.eval (.tmp 113) = .bool true from (hm.get 11 113 (by kernel_rfl))))
                      clear hW
                      rw [if_pos (show (true == true) = true by decide)]
                      have hx := HY.out w hb; have h1 := eval_getD (hm.get 18 120 (by kernel_rfl)); unfold Oper.wp; simp only [execOp]; go_simp; exact ⟨_, rfl, rfl, Below.refl _ _⟩
                  | 20, _, ho => by
                      cases ho
                      generalize hW : Region.wanted _ _ = W
                      obtain rfl : W = (true == true) := hW.symm.trans (wanted_of rfl rfl rfl (show a.eval (.tmp 113) = .bool true from (hm.get 11 113 (by kernel_rfl))))
                      clear hW
                      rw [if_pos (show (true == true) = true by decide)]
                      refine Exists.elim (show ∃ (A' : Option Addr) (c' : Nat), a.eval (.tmp 116) = .slice A' jn c' ∧ Sl w 2 A' jn (fls cur) from (hm.get 14 116 (by kernel_rfl))) fun A1 h18 => ?_; refine Exists.elim h18 fun c1 h19 => ?_; have g1 := eval_getD h19.1; have h1 := eval_getD (hm.get 19 121 (by kernel_rfl)); unfold Oper.wp; simp only [execOp]; go_simp; refine (CF.out w hb A1 c1 h19.2).mono ?_; rintro e w6 ⟨rfl, b6⟩; exact ⟨_, rfl, rfl, b6⟩
                  | 21, _, ho => by
                      cases ho
                      generalize hW : Region.wanted _ _ = W
                      obtain rfl : W = (true == true) := hW.symm.trans (wanted_of rfl rfl rfl (show a.eval (.tmp 113) = .bool true from (hm.get 11 113 (by kernel_rfl))))
                      clear hW
                      rw [if_pos (show (true == true) = true by decide)]
                      refine wp_value (st_move rfl ((hs.keeps (by kernel_rfl)).trans rfl)) ⟨_, rfl, rfl, Below.refl _ _⟩
                  | 22, _, ho => by
                      cases ho
                      generalize hW : Region.wanted _ _ = W
                      obtain rfl : W = (true == true) := hW.symm.trans (wanted_of rfl rfl rfl (show a.eval (.tmp 113) = .bool true from (hm.get 11 113 (by kernel_rfl))))
                      clear hW
                      rw [if_pos (show (true == true) = true by decide)]
                      have h1 := eval_getD (hm.get 20 122 (by kernel_rfl)); have h2 := eval_getD (hm.get 21 123 (by kernel_rfl)); unfold Oper.wp; simp only [execOp]; go_simp; exact ⟨_, rfl, (by first | rfl | simp), Below.refl _ _⟩
                  | 23, _, ho => by
                      cases ho
                      generalize hW : Region.wanted _ _ = W
                      obtain rfl : W = (false == false) := hW.symm.trans (wanted_of rfl rfl rfl (show a.eval (.tmp 104) = .bool false from (hm.get 2 104 (by kernel_rfl))))
                      clear hW
                      rw [if_pos (show (false == false) = true by decide)]
                      have h1 := eval_getD (hm.get 11 113 (by kernel_rfl)); have h3 := eval_getD (hm.get 22 124 (by kernel_rfl)); unfold Oper.wp; simp only [execOp]; go_simp; exact ⟨_, rfl, rfl, Below.refl _ _⟩
                  | (n + 24), hi, _ => absurd hi (by omega)

              have e1 : a.eval (.tmp 104) = .bool false := by cases ho; exact hm.get 2 104 (by kernel_rfl)
              have e2 : a.eval (.tmp 125) = .bool false := by cases ho; exact hm.get 23 125 (by kernel_rfl)
              have hfr := hs.frame [102, 103, 104, 105, 106, 107, 108, 109, 110, 111, 112, 113, 114, 115, 116, 117, 118, 119, 120, 121, 122, 123, 124, 125, 126] (by kernel_rfl)
              have B9 := Lib.hid hb
              cases ho
              rw [hfr]
              simp only [List.foldl_cons, List.foldl_nil, e1, e2]
              clear hfr hs hm e1 e2 hb
              generalize a.eval (.tmp 102) = u102
              generalize a.eval (.tmp 103) = u103
              generalize a.eval (.tmp 105) = u105
              generalize a.eval (.tmp 106) = u106
              generalize a.eval (.tmp 107) = u107
              generalize a.eval (.tmp 108) = u108
              generalize a.eval (.tmp 109) = u109
              generalize a.eval (.tmp 110) = u110
              generalize a.eval (.tmp 111) = u111
              generalize a.eval (.tmp 112) = u112
              generalize a.eval (.tmp 113) = u113
              generalize a.eval (.tmp 114) = u114
              generalize a.eval (.tmp 115) = u115
              generalize a.eval (.tmp 116) = u116
              generalize a.eval (.tmp 117) = u117
              generalize a.eval (.tmp 118) = u118
              generalize a.eval (.tmp 119) = u119
              generalize a.eval (.tmp 120) = u120
              generalize a.eval (.tmp 121) = u121
              generalize a.eval (.tmp 122) = u122
              generalize a.eval (.tmp 123) = u123
              generalize a.eval (.tmp 124) = u124
              generalize a.eval (.tmp 126) = u126
              unfold Oper.wp
              simp only [execOp]
              go_simp
              clear a
              go_wp2
              go_roundw
              case rel => exact ⟨k9 + 1, hlt, by go_num, Lib.hid (bstep hBx.out B9.out)⟩
              case measure => simp [intOf]; omega
          · obtain rfl : k9 = n9 := by omega
            go_wp2
            go_ret
            exact ⟨rfl, bstep B6.out hB7.out⟩
end Go.Proofs.YtkginbfpokbhcaaGreatDoor

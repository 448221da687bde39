/-
  dolmenlaw20.WorkNothing returns true. Conditions: the world can be read and is of a bounded bulk; MaxLen holds an int.
-/
import Derived.Test.YtkginbfpokbhcaaGreatDoorMade
import Derived.Test.YtkginbfpokbhcaaGreatDoorHeldLaw
import Derived.Test.YtkginbfpokbhcaaGreatDoorAwake20
import Derived.Test.YtkginbfpokbhcaaGreatDoorMine20
namespace Go.Proofs.YtkginbfpokbhcaaGreatDoor
open Go.RowKit
open IdxLaw (Ent)
open DiffLaw (ofPaths)

def wn5Phi (p q g1 : Nat) (C : Option Addr) (jn c9 : Nat) (cur : List Fil) : Nat → Value → World → Prop
  | 0, v, _ => v = .pointer (some ⟨p, 0, none⟩)
  | 1, v, _ => v = .pointer (some ⟨q, 0, none⟩)
  | 2, v, _ => v = .pointer (some ⟨g1, 3, none⟩)
  | 3, v, _ => v = .slice C jn c9
  | 4, v, w => ∃ (A' : Option Addr) (c' : Nat), v = .slice A' jn c' ∧ Sl w 2 A' jn (fls cur)
  | 5, v, _ => v = .pointer (some ⟨g1, 3, none⟩)
  | 6, v, _ => v = .slice C jn c9
  | 7, v, w => ∃ (A' : Option Addr) (c' : Nat), v = .slice A' jn c' ∧ Sl w 2 A' jn (fls cur)
  | 8, v, _ => ∃ (A' : Option Addr) (c' : Nat), v = .slice A' 0 c'
  | 9, v, _ => v = I 0
  | 10, v, _ => v = .pointer (some ⟨p, 0, none⟩)
  | 11, v, _ => v = .pointer (some ⟨g1, 3, none⟩)
  | 12, v, _ => v = .slice C jn c9
  | 13, v, w => ∃ (A' : Option Addr) (c' : Nat), v = .slice A' jn c' ∧ Sl w 2 A' jn (fls cur)
  | 14, v, _ => v = .pointer (some ⟨g1, 3, none⟩)
  | 15, v, _ => v = .slice C jn c9
  | 16, v, w => ∃ (A' : Option Addr) (c' : Nat), v = .slice A' jn c' ∧ Sl w 2 A' jn (fls cur)
  | 17, v, _ => ∃ (A' : Option Addr) (c' : Nat), v = .slice A' 0 c'
  | 18, v, _ => v = I 0
  | 19, v, _ => v = I 0
  | 20, v, _ => v = .bool true
  | _, _, _ => True
theorem wn5Phi_mono {p q g1 : Nat} {C : Option Addr} {jn c9 : Nat} {cur : List Fil} : ∀ (j : Nat) (v : Value) (w w' : World), wn5Phi p q g1 C jn c9 cur j v w → Below w.heap.size w w' → wn5Phi p q g1 C jn c9 cur j v w' := by
  intro j v w w' h hb9
  match j, h with
  | 0, h => exact h
  | 1, h => exact h
  | 2, h => exact h
  | 3, h => exact h
  | 4, h => obtain ⟨A', c', h1, h2⟩ := h; exact ⟨A', c', h1, h2.below hb9⟩
  | 5, h => exact h
  | 6, h => exact h
  | 7, h => obtain ⟨A', c', h1, h2⟩ := h; exact ⟨A', c', h1, h2.below hb9⟩
  | 8, h => exact h
  | 9, h => exact h
  | 10, h => exact h
  | 11, h => exact h
  | 12, h => exact h
  | 13, h => obtain ⟨A', c', h1, h2⟩ := h; exact ⟨A', c', h1, h2.below hb9⟩
  | 14, h => exact h
  | 15, h => exact h
  | 16, h => obtain ⟨A', c', h1, h2⟩ := h; exact ⟨A', c', h1, h2.below hb9⟩
  | 17, h => exact h
  | 18, h => exact h
  | 19, h => exact h
  | 20, h => exact h
  | (n + 21), _ => trivial
/-- what the laws ask of a disk that is no larger than its room -/
theorem small_of {L : List DF} {cap : Nat} (h : (costs L : Int) ≤ cap) (hc : cap ≤ 1048575) : L.length ≤ 1000000 ∧ smallC L := by
  have h1 := len_costs L
  exact ⟨by omega, fun x hx => by have := one_costs hx; omega⟩
set_option maxHeartbeats 8000000 in
set_option maxRecDepth 100000 in
theorem workNothing_law (x : Wd) (w : World) (hx : x.ok w) (hM : MaxL w) :
    Calls Tryz.prog 5 #[.agg #[I x.room, .slice x.A x.n x.c, .slice x.B x.m x.d, .slice x.C x.j x.e, .slice x.D x.k x.f]] w fun e w' => e = .returned (.bool true) ∧ Below w.heap.size w w' := by
  have hX := Lib.hid hx
  have HM := Lib.hid hM
  obtain ⟨g1, hg1⟩ : ∃ g1, g1 = w.heap.size := ⟨_, rfl⟩
  obtain ⟨w1, hw1⟩ : ∃ w1, w1 = w.alloc (.cells #[I x.room, .slice x.A x.n x.c, .slice x.B x.m x.d, .slice x.C x.j x.e, .slice x.D x.k x.f] 43) := ⟨_, rfl⟩
  have hG1 : Blk w1 g1 43 #[I x.room, .slice x.A x.n x.c, .slice x.B x.m x.d, .slice x.C x.j x.e, .slice x.D x.k x.f] := by rw [hw1, hg1]; exact Blk.new w _ _
  have b1 : Below w.heap.size w w1 := by rw [hw1]; exact balloc (Below.refl _ w) _
  have HG1 := Lib.hid hG1
  have B1 := Lib.hid b1
  have CW := Lib.hid (awake20_any w1 (hM.step b1))
  have rg := hG1.cell
  clear hx hM hG1 b1
  go_enter Tryz.func5, Tryz.ntmps5
  go_wp2_with fail
  simp only [← hg1]
  rw [← hw1]
  clear hg1 hw1
  refine CW.out.mono ?_
  rintro e w2 ⟨rfl, b2⟩
  have B2 := Lib.hid (bstep B1.out b2)
  have HG2 := Lib.hid (HG1.out.step b2)
  have rg2 := HG2.out.cell
  have CM := Lib.hid (made20_any x w2 (hX.out.below B2.out) (HM.out.step B2.out))
  clear b2 CW rg
  go_wp2_with fail
  refine CM.out.mono ?_
  rintro e w3 ⟨p, mp, r, q, mi, zz, nn, cap, i, L, l, li, lz, rfl, hS, hnn, hcap, hi, hE, b3⟩
  have HS := Lib.hid hS
  have Hc := Lib.hid (small_of hS.cost hcap)
  have B3 := Lib.hid (bstep B2.out b3)
  have HG := Lib.hid (HG2.out.step b3)
  clear hS hnn hcap hi hE b3 CM rg2
  obtain ⟨room, A, n, c, raw, B, m, d, puts, C, jn, c9, cur, D, k, f, tgt⟩ := x
  have HC : Hid (Sl w 2 C jn (fls cur) ∧ jn ≤ 400000 ∧ ∀ f ∈ cur, f.1.length ≤ 2147483648) := Lib.hid ⟨hX.out.cur, hX.out.curn, fun f hf => Nat.le_trans (hX.out.curg f hf) (by omega)⟩
  have CM : Hid (∀ V, Below w3.heap.size w3 V → Calls Tryz.prog 12 #[.slice C jn c9] V fun e w' => ∃ (A' : Option Addr) (c' : Nat), e = .returned (.slice A' jn c') ∧ Ow V w' 80 2 A' jn c' (fls cur)) := Lib.hid (fun V hV => mine20_any V C jn c9 cur (HC.out.1.below (bstep B3.out hV)) (by have := HC.out.2.1; omega))
  have CC : Hid (∀ V, Below w3.heap.size w3 V → ∀ (A1 : Option Addr) (c1 : Nat) (A2 : Option Addr) (c2 : Nat), Sl V 2 A1 jn (fls cur) → Sl V 2 A2 jn (fls cur) → Calls Tryz.prog 19 #[.pointer (some ⟨p, 0, none⟩), .pointer (some ⟨q, 0, none⟩), .slice A1 jn c1, .slice A2 jn c2] V fun e w' => (∃ (A' : Option Addr) (c' : Nat), e = .returned (.slice A' 0 c')) ∧ Below V.heap.size V w') := Lib.hid (fun V hV A1 c1 A2 c2 h1 h2 => by
    obtain ⟨ni, _, hI⟩ := HS.out.idx
    refine (clobber_any V p mp nn cap L q mi ni li A1 A2 jn jn c1 c2 cur cur (HS.out.disk.step hV) Hc.out.1 (hI.step hV) (HM.out.step (bstep B3.out hV)) Hc.out.2 h1 h2 HC.out.2.1 HC.out.2.1 HC.out.2.2 HC.out.2.2).mono ?_
    rintro e w' ⟨A', n', c', ns, ps, rfl, _, _, _, hn', hO⟩
    rw [none_lost] at hn'
    obtain rfl : n' = 0 := hn'
    exact ⟨⟨A', c', rfl⟩, hO.2⟩)
  have CS : Hid (∀ V, Below w3.heap.size w3 V → ∀ (A1 : Option Addr) (c1 : Nat) (A2 : Option Addr) (c2 : Nat), Sl V 2 A1 jn (fls cur) → Sl V 2 A2 jn (fls cur) → Calls Tryz.prog 15 #[.pointer (some ⟨p, 0, none⟩), .slice A1 jn c1, .slice A2 jn c2] V fun e w' => (∃ (A' : Option Addr) (c' : Nat), e = .returned (.slice A' 0 c')) ∧ Below V.heap.size V w') := Lib.hid (fun V hV A1 c1 A2 c2 h1 h2 => by
    refine (wsteps_any V p mp nn cap L A1 A2 jn jn c1 c2 cur cur (HS.out.disk.step hV) Hc.out.1 (HM.out.step (bstep B3.out hV)) h1 h2 HC.out.2.1 HC.out.2.1 HC.out.2.2 HC.out.2.2).mono ?_
    rintro e w' ⟨A', n', c', ns, ps, rfl, _, _, _, hO⟩
    rw [none_done (ns := ns) (ps := ps)] at hO
    obtain rfl : 0 = n' := fls_count hO.sl
    exact ⟨⟨A', c', rfl⟩, hO.2⟩)
  go_wp2
  refine wp_region_guards (by kernel_rfl) 21 (by kernel_rfl) ?_ (wn5Phi p q g1 C jn c9 cur) wn5Phi_mono (fun i9 o hi ho a w hb hs hm => ?_) (fun o ho a w5 hb hs hm => ?_)
  · exact dst_ltC2 (n := 49) (by kernel_rfl)
  · exact match i9, hi, ho with
        | 0, _, ho => by
            cases ho
            rw [if_pos (wanted_none _ rfl)]
            refine wp_value (st_move rfl ((hs.keeps (by kernel_rfl)).trans rfl)) ⟨_, rfl, rfl, Below.refl _ _⟩
        | 1, _, ho => by
            cases ho
            rw [if_pos (wanted_none _ rfl)]
            refine wp_value (st_move rfl ((hs.keeps (by kernel_rfl)).trans rfl)) ⟨_, rfl, rfl, Below.refl _ _⟩
        | 2, _, ho => by
            cases ho
            rw [if_pos (wanted_none _ rfl)]
            refine wp_value (st_field rfl ((hs.keeps (by kernel_rfl)).trans rfl) (by kernel_rfl)) ⟨_, rfl, rfl, Below.refl _ _⟩
        | 3, _, ho => by
            cases ho
            rw [if_pos (wanted_none _ rfl)]
            have hx : w.cell? ⟨g1, 3, none⟩ = some (.slice C jn c9) := (HG.out.step hb).cell 3; refine wp_value (st_load rfl (hm.get 2 30 (by kernel_rfl)) (by go_simp)) ⟨_, rfl, rfl, Below.refl _ _⟩
        | 4, _, ho => by
            cases ho
            rw [if_pos (wanted_none _ rfl)]
            have h1 := eval_getD (hm.get 3 31 (by kernel_rfl)); unfold Oper.wp; simp only [execOp]; go_simp; refine (CM.out w hb).mono ?_; rintro e w6 ⟨A6, c6, rfl, hO6⟩; exact ⟨_, rfl, ⟨A6, c6, rfl, hO6.sl⟩, hO6.2⟩
        | 5, _, ho => by
            cases ho
            rw [if_pos (wanted_none _ rfl)]
            refine wp_value (st_field rfl ((hs.keeps (by kernel_rfl)).trans rfl) (by kernel_rfl)) ⟨_, rfl, rfl, Below.refl _ _⟩
        | 6, _, ho => by
            cases ho
            rw [if_pos (wanted_none _ rfl)]
            have hx : w.cell? ⟨g1, 3, none⟩ = some (.slice C jn c9) := (HG.out.step hb).cell 3; refine wp_value (st_load rfl (hm.get 5 33 (by kernel_rfl)) (by go_simp)) ⟨_, rfl, rfl, Below.refl _ _⟩
        | 7, _, ho => by
            cases ho
            rw [if_pos (wanted_none _ rfl)]
            have h1 := eval_getD (hm.get 6 34 (by kernel_rfl)); unfold Oper.wp; simp only [execOp]; go_simp; refine (CM.out w hb).mono ?_; rintro e w6 ⟨A6, c6, rfl, hO6⟩; exact ⟨_, rfl, ⟨A6, c6, rfl, hO6.sl⟩, hO6.2⟩
        | 8, _, ho => by
            cases ho
            rw [if_pos (wanted_none _ rfl)]
            refine Exists.elim (show ∃ (A' : Option Addr) (c' : Nat), a.eval (.tmp 32) = .slice A' jn c' ∧ Sl w 2 A' jn (fls cur) from (hm.get 4 32 (by kernel_rfl))) fun A1 h8 => ?_; refine Exists.elim h8 fun c1 h9 => ?_; refine Exists.elim (show ∃ (A' : Option Addr) (c' : Nat), a.eval (.tmp 35) = .slice A' jn c' ∧ Sl w 2 A' jn (fls cur) from (hm.get 7 35 (by kernel_rfl))) fun A2 h10 => ?_; refine Exists.elim h10 fun c2 h11 => ?_; have g1 := eval_getD h9.1; have g2 := eval_getD h11.1; have h1 := eval_getD (hm.get 0 28 (by kernel_rfl)); have h2 := eval_getD (hm.get 1 29 (by kernel_rfl)); unfold Oper.wp; simp only [execOp]; go_simp; refine (CC.out w hb A1 c1 A2 c2 h9.2 h11.2).mono ?_; rintro e w6 ⟨⟨A6, c6, rfl⟩, b6⟩; exact ⟨_, rfl, ⟨A6, c6, rfl⟩, b6⟩
        | 9, _, ho => by
            cases ho
            rw [if_pos (wanted_none _ rfl)]
            refine Exists.elim (show ∃ (A' : Option Addr) (c' : Nat), a.eval (.tmp 36) = .slice A' 0 c' from (hm.get 8 36 (by kernel_rfl))) fun A1 h8 => ?_; refine Exists.elim h8 fun c1 h9 => ?_; have h1 := eval_getD h9; unfold Oper.wp; simp only [execOp]; go_simp; exact ⟨_, rfl, rfl, Below.refl _ _⟩
        | 10, _, ho => by
            cases ho
            rw [if_pos (wanted_none _ rfl)]
            refine wp_value (st_move rfl ((hs.keeps (by kernel_rfl)).trans rfl)) ⟨_, rfl, rfl, Below.refl _ _⟩
        | 11, _, ho => by
            cases ho
            rw [if_pos (wanted_none _ rfl)]
            refine wp_value (st_field rfl ((hs.keeps (by kernel_rfl)).trans rfl) (by kernel_rfl)) ⟨_, rfl, rfl, Below.refl _ _⟩
        | 12, _, ho => by
            cases ho
            rw [if_pos (wanted_none _ rfl)]
            have hx : w.cell? ⟨g1, 3, none⟩ = some (.slice C jn c9) := (HG.out.step hb).cell 3; refine wp_value (st_load rfl (hm.get 11 39 (by kernel_rfl)) (by go_simp)) ⟨_, rfl, rfl, Below.refl _ _⟩
        | 13, _, ho => by
            cases ho
            rw [if_pos (wanted_none _ rfl)]
            have h1 := eval_getD (hm.get 12 40 (by kernel_rfl)); unfold Oper.wp; simp only [execOp]; go_simp; refine (CM.out w hb).mono ?_; rintro e w6 ⟨A6, c6, rfl, hO6⟩; exact ⟨_, rfl, ⟨A6, c6, rfl, hO6.sl⟩, hO6.2⟩
        | 14, _, ho => by
            cases ho
            rw [if_pos (wanted_none _ rfl)]
            refine wp_value (st_field rfl ((hs.keeps (by kernel_rfl)).trans rfl) (by kernel_rfl)) ⟨_, rfl, rfl, Below.refl _ _⟩
        | 15, _, ho => by
            cases ho
            rw [if_pos (wanted_none _ rfl)]
            have hx : w.cell? ⟨g1, 3, none⟩ = some (.slice C jn c9) := (HG.out.step hb).cell 3; refine wp_value (st_load rfl (hm.get 14 42 (by kernel_rfl)) (by go_simp)) ⟨_, rfl, rfl, Below.refl _ _⟩
        | 16, _, ho => by
            cases ho
            rw [if_pos (wanted_none _ rfl)]
            have h1 := eval_getD (hm.get 15 43 (by kernel_rfl)); unfold Oper.wp; simp only [execOp]; go_simp; refine (CM.out w hb).mono ?_; rintro e w6 ⟨A6, c6, rfl, hO6⟩; exact ⟨_, rfl, ⟨A6, c6, rfl, hO6.sl⟩, hO6.2⟩
        | 17, _, ho => by
            cases ho
            rw [if_pos (wanted_none _ rfl)]
            refine Exists.elim (show ∃ (A' : Option Addr) (c' : Nat), a.eval (.tmp 41) = .slice A' jn c' ∧ Sl w 2 A' jn (fls cur) from (hm.get 13 41 (by kernel_rfl))) fun A1 h8 => ?_; refine Exists.elim h8 fun c1 h9 => ?_; refine Exists.elim (show ∃ (A' : Option Addr) (c' : Nat), a.eval (.tmp 44) = .slice A' jn c' ∧ Sl w 2 A' jn (fls cur) from (hm.get 16 44 (by kernel_rfl))) fun A2 h10 => ?_; refine Exists.elim h10 fun c2 h11 => ?_; have g1 := eval_getD h9.1; have g2 := eval_getD h11.1; have h1 := eval_getD (hm.get 10 38 (by kernel_rfl)); unfold Oper.wp; simp only [execOp]; go_simp; refine (CS.out w hb A1 c1 A2 c2 h9.2 h11.2).mono ?_; rintro e w6 ⟨⟨A6, c6, rfl⟩, b6⟩; exact ⟨_, rfl, ⟨A6, c6, rfl⟩, b6⟩
        | 18, _, ho => by
            cases ho
            rw [if_pos (wanted_none _ rfl)]
            refine Exists.elim (show ∃ (A' : Option Addr) (c' : Nat), a.eval (.tmp 45) = .slice A' 0 c' from (hm.get 17 45 (by kernel_rfl))) fun A1 h8 => ?_; refine Exists.elim h8 fun c1 h9 => ?_; have h1 := eval_getD h9; unfold Oper.wp; simp only [execOp]; go_simp; exact ⟨_, rfl, rfl, Below.refl _ _⟩
        | 19, _, ho => by
            cases ho
            rw [if_pos (wanted_none _ rfl)]
            have h1 := eval_getD (hm.get 9 37 (by kernel_rfl)); have h2 := eval_getD (hm.get 18 46 (by kernel_rfl)); unfold Oper.wp; simp only [execOp]; go_simp; exact ⟨_, rfl, rfl, Below.refl _ _⟩
        | 20, _, ho => by
            cases ho
            rw [if_pos (wanted_none _ rfl)]
            have h1 := eval_getD (hm.get 19 47 (by kernel_rfl)); unfold Oper.wp; simp only [execOp]; go_simp; exact ⟨_, rfl, rfl, Below.refl _ _⟩
        | (n + 21), hi, _ => absurd hi (by omega)

  · have e1 : a.eval (.tmp 48) = .bool true := by cases ho; exact hm.get 20 48 (by kernel_rfl)
    have hfr := hs.frame [28, 29, 30, 31, 32, 33, 34, 35, 36, 37, 38, 39, 40, 41, 42, 43, 44, 45, 46, 47, 48, 2] (by kernel_rfl)
    have B5 := Lib.hid hb
    cases ho
    rw [hfr]
    simp only [List.foldl_cons, List.foldl_nil, e1]
    clear hfr hs hm e1 hb CC CS CM
    generalize a.eval (.tmp 28) = u28
    generalize a.eval (.tmp 29) = u29
    generalize a.eval (.tmp 30) = u30
    generalize a.eval (.tmp 31) = u31
    generalize a.eval (.tmp 32) = u32
    generalize a.eval (.tmp 33) = u33
    generalize a.eval (.tmp 34) = u34
    generalize a.eval (.tmp 35) = u35
    generalize a.eval (.tmp 36) = u36
    generalize a.eval (.tmp 37) = u37
    generalize a.eval (.tmp 38) = u38
    generalize a.eval (.tmp 39) = u39
    generalize a.eval (.tmp 40) = u40
    generalize a.eval (.tmp 41) = u41
    generalize a.eval (.tmp 42) = u42
    generalize a.eval (.tmp 43) = u43
    generalize a.eval (.tmp 44) = u44
    generalize a.eval (.tmp 45) = u45
    generalize a.eval (.tmp 46) = u46
    generalize a.eval (.tmp 47) = u47
    unfold Oper.wp
    simp only [execOp]
    go_simp
    clear a
    go_wp2
    go_ret
    exact ⟨rfl, bstep B3.out B5.out⟩
end Go.Proofs.YtkginbfpokbhcaaGreatDoor

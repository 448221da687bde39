/-
  PairRenames: which of any changes are renames is what the document says. Conditions: the arguments can be read, of a bounded bulk.
-/
import Derived.Test.YtphnfcgdpdimbaaGreatDoorRKitPl
import Derived.Test.YtphnfcgdpdimbaaGreatDoorRRefRen16
import Derived.Test.YtphnfcgdpdimbaaGreatDoorRKitPt
import Derived.Test.YtphnfcgdpdimbaaGreatDoorRKitPb
import Derived.Test.YtphnfcgdpdimbaaGreatDoorRKitSa
import Derived.Test.YtphnfcgdpdimbaaGreatDoorRAwake16G
namespace Go.Proofs.YtphnfcgdpdimbaaGreatDoor
open Go.RowKit Go.Shelf
open RenLaw (renM)
theorem TwoS.stR {w : World} {q p pk m n q2 r u z : Nat} {cap : Int} {R : List (List UInt8)} (h : TwoS w q p pk m n q2 r cap R u z) (hz : z ≤ 10000000) (hB : Blobs R) : StR w q2 r cap R := by
 obtain ⟨dl, h1, h2, h3⟩ := h.dr
 have := costs_count dl
 exact ⟨h.sr, ⟨dl, h1, h2, by omega⟩, hB⟩
set_option maxHeartbeats 8000000 in
set_option maxRecDepth 100000 in
theorem pairRenames_walk (A0 : Option Addr) (n0 c0 : Nat) (rs : List BlobIn) (A1 : Option Addr) (n1 c1 : Nat) (l : List Chg3) (A2 : Option Addr) (n2 c2 : Nat) (nums : List Int) (w : World)
  (hS0 : Sl w 1 A0 n0 (rs.map BlobIn.v)) (hR0 : ∀ r ∈ rs, Sl w 1 r.A r.n (u8s r.l)) (hn0 : n0 ≤ 1048576) (hu0 : ((rs.map (·.l)).map List.length).sum ≤ 1048576)
  (hS1 : Sl w 3 A1 n1 (cgs l)) (hn1 : n1 ≤ 1048576) (hO1 : ∀ f ∈ l, f.1.length ≤ 1048576 ∧ f.2.1.length ≤ 1048576 ∧ f.2.2.length ≤ 1048576) (hS2 : Sl w 1 A2 n2 (nums.map fun z => I z)) (hn2 : n2 ≤ 1048576) (hX : MaxL w) :
  Calls Tryz.prog 4 #[.slice A0 n0 c0, .slice A1 n1 c1, .slice A2 n2 c2] w fun e w' => e = .returned (.bool true) ∧ Below w.heap.size w w' := by
 have HS0 := Lib.hid hS0
 have HR0 := Lib.hid hR0
 have HS1 := Lib.hid hS1
 have HO1 := Lib.hid hO1
 have HS2 := Lib.hid hS2
 have HX := Lib.hid hX
 have Hu0 := Lib.hid hu0
 have CA := Lib.hid (awake16G_any w hX)
 clear hS0 hR0 hS1 hO1 hS2 hX hu0
 go_enter Tryz.func4, Tryz.ntmps4
 go_wp2_with fail
 refine CA.out.mono ?_
 rintro e w1 ⟨rfl, b1⟩
 have B1 := Lib.hid b1
 have CB := Lib.hid (both_any A0 n0 c0 rs w1 (HS0.out.below b1) (fun r hr => (HR0.out r hr).below b1) (by omega) (by have := Hu0.out; omega))
 clear b1 CA
 go_wp2_with fail
 refine CB.out.mono ?_
 rintro e w2 ⟨q, p, pk, m, n', q2, r, ib, ki, ci, Ai, rfl, hT, hO, hki⟩
 have Hids : Hid (∀ x ∈ (bothS (rs.map (·.l)) ib).2, x.length = 32) := Lib.hid (bothS_ids _ _)
 have Hblb := Lib.hid (both_blobs (rs.map (·.l)) ib)
 obtain ⟨R, hR⟩ : ∃ R, R = (bothS (rs.map (·.l)) ib).1 := ⟨_, rfl⟩
 obtain ⟨ids, hids⟩ : ∃ ids, ids = (bothS (rs.map (·.l)) ib).2 := ⟨_, rfl⟩
 rw [← hR] at hT Hblb
 rw [← hids] at hO Hids
 have HT := Lib.hid hT
 have B2 := Lib.hid (bstep B1.out hO.2)
 have CW := Lib.hid (with_any A1 Ai A2 n1 c1 ki ci n2 c2 l ids nums w2 (HS1.out.below B2.out) hO.sl (HS2.out.below B2.out) (by omega) (by omega) (by omega))
 clear hT hO CB hR hids
 go_wp2_with fail
 refine CW.out.mono ?_
 rintro e w3 ⟨i, A3, c3, hi1, hi2, hi3, rfl, hO3⟩
 obtain ⟨K, hK⟩ : ∃ K, K = withL l ids nums i := ⟨_, rfl⟩
 have HKl : Hid (∀ x ∈ K, x.2.1.length ≤ 1000000000 ∧ x.2.2.length ≤ 1000000000) := Lib.hid (fun x hx => by
  rw [hK] at hx
  exact withL_lens (fun y hy => by have := HO1.out y hy; omega) (fun y hy => by have := Hids.out y hy; omega) hx)
 have HKn : Hid (K.length ≤ 16) := Lib.hid (by rw [hK, withL_len]; exact hi3)
 rw [← hK] at hO3
 have B3 := Lib.hid (bstep B2.out hO3.2)
 have HS3 := Lib.hid hO3.sl
 have HT3 := Lib.hid (HT.out.step hO3.2)
 have CT := Lib.hid (turned16_any w3 A3 i c3 K HS3.out (by omega))
 clear hO3 hK CW
 go_wp2_with fail
 refine CT.out.mono ?_
 rintro e w4 ⟨A4, c4, rfl, hO4⟩
 have B4 := Lib.hid (bstep B3.out hO4.2)
 have HT4 := Lib.hid (HT3.out.step hO4.2)
 have HS34 := Lib.hid (HS3.out.below hO4.2)
 have CR := Lib.hid (renamesG_any w4 q p pk m n' i c4 capB A4 K R hO4.sl (by omega) (HT4.out.stP Hblb.out) (HX.out.step B4.out) HKl.out)
 clear hO4 CT
 go_wp2_with fail
 refine CR.out.mono ?_
 rintro e w5 ⟨hret, b5⟩
 have B5 := Lib.hid (bstep B4.out b5)
 have CQ := Lib.hid (rrenames_any w5 q2 r A3 i c3 capB K R (HS34.out.below b5) (by omega) ((HT4.out.step b5).stR (by omega) Hblb.out) HKl.out)
 clear b5 CR
 have hret6 : ∀ e w', RetRen K R w5 e w' → ∃ (v : Int) (rs9 : List Ren) (A9 : Option Addr) (c9 : Nat), rs9.length ≤ 100 ∧ e = .returned (.tuple #[.slice A9 rs9.length c9, I v]) ∧ Sl w' 3 A9 rs9.length (rns rs9) ∧ Below w5.heap.size w5 w' ∧ (match renM K (rdOf R) with | .error z => v = z ∧ rs9 = [] | .ok ys => v = 0 ∧ rs9 = ys) := by
  rintro e w' ⟨h1, h2⟩
  rcases hrm : renM K (rdOf R) with z | ys
  ·rw [hrm] at h1
   exact ⟨z, [], none, 0, by simp, h1.1, Sl.nil_, h2, rfl, rfl⟩
  ·rw [hrm] at h1
   obtain ⟨A9, c9, e9, hs9⟩ := h1
   have hl9 := renM_len hrm
   exact ⟨0, ys, A9, c9, by have := HKn.out; omega, e9, hs9, h2, rfl, rfl⟩
 have hret5 : ∃ (v : Int) (rs9 : List Ren) (A9 : Option Addr) (c9 : Nat), rs9.length ≤ 100 ∧ e = .returned (.tuple #[.slice A9 rs9.length c9, I v]) ∧ Sl w5 3 A9 rs9.length (rns rs9) ∧ (match renM K (rdOf R) with | .error z => v = z ∧ rs9 = [] | .ok ys => v = 0 ∧ rs9 = ys) := by
  rcases hrm : renM K (rdOf R) with z | ys
  ·rw [hrm] at hret
   exact ⟨z, [], none, 0, by simp, hret.1, Sl.nil_, rfl, rfl⟩
  ·rw [hrm] at hret
   obtain ⟨A9, c9, e9, hs9⟩ := hret
   have hl9 := renM_len hrm
   exact ⟨0, ys, A9, c9, by have := HKn.out; omega, e9, hs9, rfl, rfl⟩
 have H6 := Lib.hid hret6
 obtain ⟨v, rsP, AP, cP, hP1, rfl, hP2, hP3⟩ := hret5
 have HP2 := Lib.hid hP2
 have HP3 := Lib.hid hP3
 clear hret hret6 hP2 hP3
 go_wp2_with fail
 refine CQ.out.mono ?_
 intro e w6 hq
 obtain ⟨v2, rsQ, AQ, cQ, hQ1, rfl, hQ2, b6, hQ3⟩ := H6.out e w6 hq
 have hsame : v2 = v ∧ rsQ = rsP := by
  have h3 := HP3.out
  rcases hrm : renM K (rdOf R) with z | ys
  ·rw [hrm] at h3 hQ3
   exact ⟨hQ3.1.trans h3.1.symm, hQ3.2.trans h3.2.symm⟩
  ·rw [hrm] at h3 hQ3
   exact ⟨hQ3.1.trans h3.1.symm, hQ3.2.trans h3.2.symm⟩
 obtain ⟨rfl, rfl⟩ := hsame
 have B6 := Lib.hid (bstep B5.out b6)
 have HQ2 := Lib.hid hQ2
 have CN := Lib.hid (renames16_any w6 AP rsQ.length cP rsQ (HP2.out.below b6) (by omega))
 obtain ⟨n9, hn9⟩ : ∃ n9, n9 = rsQ.length := ⟨_, rfl⟩
 rw [← hn9] at CN HQ2 hQ1 ⊢
 clear hq hQ2 b6 CQ H6 HP2 HP3 hQ3 hn9
 have hvv : (v2 == v2) = true := by simp
 go_wp2_with fail
 refine CN.out.mono ?_
 rintro e w7 ⟨A7, c7, rfl, hO7⟩
 have B7 := Lib.hid (bstep B6.out hO7.2)
 have cs := sameRenames_any w7 A7 AQ n9 n9 c7 cQ rsQ rsQ hO7.sl (HQ2.out.below hO7.2) (by omega)
 rw [show decide (rsQ = rsQ) = true from decide_eq_true rfl] at cs
 have CS := Lib.hid cs
 clear hO7 CN cs
 go_wp2_with fail
 refine CS.out.mono ?_
 rintro e w8 ⟨rfl, j, rfl⟩
 clear CS
 go_wp2
 go_ret
 exact ⟨rfl, below_drewN B7.out _⟩
end Go.Proofs.YtphnfcgdpdimbaaGreatDoor

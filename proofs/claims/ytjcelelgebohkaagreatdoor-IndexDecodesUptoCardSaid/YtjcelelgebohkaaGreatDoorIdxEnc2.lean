/-
  The bytes of the document's index. Condition: entries that may be, no more than 1000000.
-/
import Derived.Test.YtjcelelgebohkaaGreatDoorIdxEnc
namespace Go.Proofs.YtjcelelgebohkaaGreatDoor
open Go.RowKit
open IdxLaw (Ent sortE)
def rn1Phi (g no co s : Nat) (Ao : Option Addr) (L xp : List UInt8) : Nat → Value → World → Prop
  | 0, v, _ => v = .slice Ao no co
  | 1, v, _ => v = .pointer (some ⟨g, 0, none⟩)
  | 2, v, _ => v = S xp
  | 3, v, w => SlB w v (L ++ (putNum xp.length ++ xp))
  | 4, v, _ => v = .pointer (some ⟨g, 1, none⟩)
  | 5, v, _ => v = I ((s : Int))
  | 6, v, w => SlB w v ((L ++ (putNum xp.length ++ xp)) ++ putNum s)
  | _, _, _ => True
theorem rn1Phi_mono {g no co s : Nat} {Ao : Option Addr} {L xp : List UInt8} : ∀ (j : Nat) (v : Value) (w w' : World), rn1Phi g no co s Ao L xp j v w → Below w.heap.size w w' → rn1Phi g no co s Ao L xp j v w' := by
  intro j v w w' h hb
  match j, h with
  | 0, h => exact h
  | 1, h => exact h
  | 2, h => exact h
  | 3, h => exact SlB.step h hb
  | 4, h => exact h
  | 5, h => exact h
  | 6, h => exact SlB.step h hb
  | (n + 7), _ => trivial
def rn2Phi (g no co s z : Nat) (Ao : Option Addr) (L xp xi : List UInt8) : Nat → Value → World → Prop
  | 0, v, _ => v = .slice Ao no co
  | 1, v, _ => v = .pointer (some ⟨g, 2, none⟩)
  | 2, v, _ => v = S xi
  | 3, v, w => SlB w v (((L ++ (putNum xp.length ++ xp)) ++ putNum s) ++ (putNum xi.length ++ xi))
  | 4, v, _ => v = .pointer (some ⟨g, 3, none⟩)
  | 5, v, _ => v = I ((z : Int))
  | 6, v, w => SlB w v ((((L ++ (putNum xp.length ++ xp)) ++ putNum s) ++ (putNum xi.length ++ xi)) ++ putNum z)
  | _, _, _ => True
theorem rn2Phi_mono {g no co s z : Nat} {Ao : Option Addr} {L xp xi : List UInt8} : ∀ (j : Nat) (v : Value) (w w' : World), rn2Phi g no co s z Ao L xp xi j v w → Below w.heap.size w w' → rn2Phi g no co s z Ao L xp xi j v w' := by
  intro j v w w' h hb
  match j, h with
  | 0, h => exact h
  | 1, h => exact h
  | 2, h => exact h
  | 3, h => exact SlB.step h hb
  | 4, h => exact h
  | 5, h => exact h
  | 6, h => exact SlB.step h hb
  | (n + 7), _ => trivial
set_option maxRecDepth 100000 in
set_option maxHeartbeats 8000000 in
theorem rencode_any (F : Nat → Prop) (w : World) (q : Nat) (E : List Ent) (hR : RIx F w q E) (hn : E.length ≤ 1000000) (hr : ∀ e ∈ E, IdxLaw.right e = true) :
    Calls Tryz.prog 37 #[.pointer (some ⟨q, 0, none⟩)] w (RetS w (encI E)) := by
  obtain ⟨_, _, A, c, hB, hc, hS⟩ := hR
  have HQ := Lib.hid hB
  have HE := Lib.hid hS.1
  obtain ⟨n, hn'⟩ : ∃ n, n = E.length := ⟨_, rfl⟩
  have Hsl : Hid (E.length = n) := Lib.hid hn'.symm
  have HR := Lib.hid hr
  have HL := Lib.hid (encK_len hr hn)
  have C2 := Lib.hid (fun W => refPutNum_nat none 0 0 n [] W Sl.nil_ (by omega) (by omega))
  rw [← hn'] at HQ HE hn
  have rq := HQ.out.cell
  clear hr hn' hB hc hS
  go_enter Tryz.func37, Tryz.ntmps37
  go_wp2_with (go_at_call 65; refine (C2.out _).mono ?_; rintro e w2 ⟨A2, n2, c2, rfl, hO2⟩; have B2 := Lib.hid hO2.2; have HS2 := Lib.hid (SlB.of hO2); clear hO2)
  clear rq
  go_loopw [3, 4, 5] (fun o i p5 wr => ∃ k : Nat, i = .int .i64 k ∧ Hid (k ≤ n) ∧ Hid (SlB wr o (encK E k)) ∧ Hid (Below w.heap.size w wr)) (fun _ i _ _ => n - (intOf i).toNat)
  case atStart => exact ⟨0, rfl, Lib.hid (Nat.zero_le _), Lib.hid (by rw [encK_zero, Hsl.out]; exact HS2.out), B2⟩
  case round =>
    obtain ⟨k, rfl, hk, hS, hb⟩ := hrel
    obtain ⟨Ao, no, co, rfl, hS1, hS2⟩ := hS.out
    have HS := Lib.hid hS1
    have HC := Lib.hid hS2
    have rq := (HQ.out.step hb.out).cell
    clear hS hS1 hS2
    by_cases hlt : k < n
    · obtain ⟨b, off, x, rfl, _, hx, x0, x1, x2, x3, x4⟩ := (HE.out.below hb.out).ent hlt
      have HX := Lib.hid (encK_step hx)
      obtain ⟨h1, h2, h3, h4, h5, h6, h7, h8⟩ := right_nums (HR.out x (List.mem_of_getElem? hx))
      have hLk := HL.out k (by rw [Hsl.out]; omega)
      clear hx
      obtain ⟨xp, xs, xi, xz, xt⟩ := x
      simp only at h1 h2 h3 h4 h5 h6 h7 h8
      obtain ⟨L, hL⟩ : ∃ L, L = encK E k := ⟨_, rfl⟩
      rw [← hL] at HS hLk HX
      clear hL
      obtain ⟨s, hs⟩ : ∃ s, s = xs.toNat := ⟨_, rfl⟩
      obtain ⟨z, hz⟩ : ∃ z, z = xz.toNat := ⟨_, rfl⟩
      obtain ⟨t, ht⟩ : ∃ t, t = xt.toNat := ⟨_, rfl⟩
      rw [← hs] at h3 h6
      rw [← hz] at h4 h7
      rw [← ht] at h5 h8
      clear hs hz ht
      subst h3 h4 h5
      have a1 := putNum_le xp.length (by omega)
      have a2 := putNum_le s (by omega)
      have a3 := putNum_le xi.length (by omega)
      have a4 := putNum_le z h7
      have a5 := putNum_le t h8
      have HNX : Hid (encK E (k + 1) = (((L ++ (putNum xp.length ++ xp)) ++ putNum s) ++ (putNum xi.length ++ xi)) ++ putNum z ++ putNum t) := Lib.hid (by rw [HX.out]; simp [entB])
      clear HX
      have HB5 := Lib.hid (Blk.new wr 32 #[S xp, I s, S xi, I z, I t])
      have b5 := balloc (Below.refl _ wr) (.cells #[S xp, I s, S xi, I z, I t] 32)
      obtain ⟨W, hW⟩ : ∃ W, W = wr.alloc (.cells #[S xp, I s, S xi, I z, I t] 32) := ⟨_, rfl⟩
      obtain ⟨g, hg⟩ : ∃ g, g = wr.heap.size := ⟨_, rfl⟩
      rw [← hW, ← hg] at HB5
      rw [← hW] at b5
      have BW := Lib.hid (bstep hb.out b5)
      have HSW := Lib.hid (HS.out.below b5)
      go_wp2
      rw [← hW]
      simp only [← hg]
      clear hW hg b5 rq x0 x1 x2 x3 x4
      refine wp_region_guardsL (by kernel_rfl) 7 (by kernel_rfl) ?_ (rn1Phi g no co s Ao L xp) rn1Phi_mono (fun i o hi ho a w hb hs hm => ?_) (fun o ho a w hb hs hm => ?_)
      · exact dst_ltT (n := 47) (by kernel_rfl)
      · exact match i, hi, ho with
        | 0, _, ho => by
            cases ho
            rw [if_pos (wanted_none _ rfl)]
            refine wp_value (st_move rfl ((hs.keeps (by kernel_rfl)).trans rfl)) ⟨_, rfl, rfl, Below.refl _ _⟩
        | 1, _, ho => by
            cases ho
            rw [if_pos (wanted_none _ rfl)]
            refine wp_value (st_field rfl ((hs.keeps (by kernel_rfl)).trans rfl) (by kernel_rfl)) ⟨_, rfl, rfl, Below.refl _ _⟩
        | 2, _, ho => by
            cases ho
            rw [if_pos (wanted_none _ rfl)]
            have hx : w.cell? ⟨g, 0, none⟩ = some (S xp) := (HB5.out.step hb).cell 0; refine wp_value (st_load rfl (hm.get 1 29 (by kernel_rfl)) (by go_simp)) ⟨_, rfl, rfl, Below.refl _ _⟩
        | 3, _, ho => by
            cases ho
            rw [if_pos (wanted_none _ rfl)]
            have S9 := HSW.out.below hb; have hm9 := u8s_len S9; have h1 := eval_getD (hm.get 0 28 (by kernel_rfl)); have h2 := eval_getD (hm.get 2 30 (by kernel_rfl)); unfold Oper.wp; simp only [execOp]; go_simp; refine (refPutText_any Ao no co _ xp w S9 (by first | omega | (simp only [List.length_append] at hm9; omega))).mono ?_; rintro e w' ⟨A8, m8, c8, rfl, hO8⟩; exact ⟨_, rfl, (SlB.of hO8), hO8.2⟩
        | 4, _, ho => by
            cases ho
            rw [if_pos (wanted_none _ rfl)]
            refine wp_value (st_field rfl ((hs.keeps (by kernel_rfl)).trans rfl) (by kernel_rfl)) ⟨_, rfl, rfl, Below.refl _ _⟩
        | 5, _, ho => by
            cases ho
            rw [if_pos (wanted_none _ rfl)]
            have hx : w.cell? ⟨g, 1, none⟩ = some (I ((s : Int))) := (HB5.out.step hb).cell 1; refine wp_value (st_load rfl (hm.get 4 32 (by kernel_rfl)) (by go_simp)) ⟨_, rfl, rfl, Below.refl _ _⟩
        | 6, _, ho => by
            cases ho
            rw [if_pos (wanted_none _ rfl)]
            obtain ⟨A9, m9, c9, e9, S9, hc9⟩ := (hm.get 3 31 (by kernel_rfl)); have hm9 := u8s_len S9; simp only [List.length_append] at hm9; have h1 := eval_getD e9; have h2 := eval_getD (hm.get 5 33 (by kernel_rfl)); unfold Oper.wp; simp only [execOp]; go_simp; refine (refPutNum_nat A9 m9 c9 s _ w S9 (by first | omega | (simp only [List.length_append] at hm9; omega)) (by omega)).mono ?_; rintro e w' ⟨A8, m8, c8, rfl, hO8⟩; exact ⟨_, rfl, (SlB.of hO8), hO8.2⟩
        | (n + 7), hi, _ => absurd hi (by omega)

      have e1 : SlB w (a.eval (.tmp 34)) ((L ++ (putNum xp.length ++ xp)) ++ putNum s) := by cases ho; exact hm.get 6 34 (by kernel_rfl)
      have hfr := hs.frame [28, 29, 30, 31, 32, 33, 34] (by kernel_rfl)
      cases ho
      rw [hfr]
      simp only [List.foldl_cons, List.foldl_nil]
      clear hfr hs hm
      generalize a.eval (.tmp 28) = u28
      generalize a.eval (.tmp 29) = u29
      generalize a.eval (.tmp 30) = u30
      generalize a.eval (.tmp 31) = u31
      generalize a.eval (.tmp 32) = u32
      generalize a.eval (.tmp 33) = u33
      generalize a.eval (.tmp 34) = u34 at e1
      unfold Oper.wp
      simp only [execOp]
      go_simp
      clear a
      have P1 := e1
      have hb1 := hb
      clear e1 hb
      obtain ⟨Av, nv, cv, rfl, hSV, _⟩ := P1
      have hmV := u8s_len hSV
      simp only [List.length_append] at hmV
      have HSV := Lib.hid hSV
      clear hSV
      have BW2 := Lib.hid (bstep BW.out hb1)
      have HB6 := Lib.hid (HB5.out.step hb1)
      go_wp2
      refine wp_region_guardsL (by kernel_rfl) 7 (by kernel_rfl) ?_ (rn2Phi g nv cv s z Av L xp xi) rn2Phi_mono (fun i o hi ho a w hb hs hm => ?_) (fun o ho a w hb hs hm => ?_)
      · exact dst_ltT (n := 47) (by kernel_rfl)
      · exact match i, hi, ho with
        | 0, _, ho => by
            cases ho
            rw [if_pos (wanted_none _ rfl)]
            refine wp_value (st_move rfl ((hs.keeps (by kernel_rfl)).trans rfl)) ⟨_, rfl, rfl, Below.refl _ _⟩
        | 1, _, ho => by
            cases ho
            rw [if_pos (wanted_none _ rfl)]
            refine wp_value (st_field rfl ((hs.keeps (by kernel_rfl)).trans rfl) (by kernel_rfl)) ⟨_, rfl, rfl, Below.refl _ _⟩
        | 2, _, ho => by
            cases ho
            rw [if_pos (wanted_none _ rfl)]
            have hx : w.cell? ⟨g, 2, none⟩ = some (S xi) := (HB6.out.step hb).cell 2; refine wp_value (st_load rfl (hm.get 1 36 (by kernel_rfl)) (by go_simp)) ⟨_, rfl, rfl, Below.refl _ _⟩
        | 3, _, ho => by
            cases ho
            rw [if_pos (wanted_none _ rfl)]
            have S9 := HSV.out.below hb; have hm9 := u8s_len S9; have h1 := eval_getD (hm.get 0 35 (by kernel_rfl)); have h2 := eval_getD (hm.get 2 37 (by kernel_rfl)); unfold Oper.wp; simp only [execOp]; go_simp; refine (refPutText_any Av nv cv _ xi w S9 (by first | omega | (simp only [List.length_append] at hm9; omega))).mono ?_; rintro e w' ⟨A8, m8, c8, rfl, hO8⟩; exact ⟨_, rfl, (SlB.of hO8), hO8.2⟩
        | 4, _, ho => by
            cases ho
            rw [if_pos (wanted_none _ rfl)]
            refine wp_value (st_field rfl ((hs.keeps (by kernel_rfl)).trans rfl) (by kernel_rfl)) ⟨_, rfl, rfl, Below.refl _ _⟩
        | 5, _, ho => by
            cases ho
            rw [if_pos (wanted_none _ rfl)]
            have hx : w.cell? ⟨g, 3, none⟩ = some (I ((z : Int))) := (HB6.out.step hb).cell 3; refine wp_value (st_load rfl (hm.get 4 39 (by kernel_rfl)) (by go_simp)) ⟨_, rfl, rfl, Below.refl _ _⟩
        | 6, _, ho => by
            cases ho
            rw [if_pos (wanted_none _ rfl)]
            obtain ⟨A9, m9, c9, e9, S9, hc9⟩ := (hm.get 3 38 (by kernel_rfl)); have hm9 := u8s_len S9; simp only [List.length_append] at hm9; have h1 := eval_getD e9; have h2 := eval_getD (hm.get 5 40 (by kernel_rfl)); unfold Oper.wp; simp only [execOp]; go_simp; refine (refPutNum_nat A9 m9 c9 z _ w S9 (by first | omega | (simp only [List.length_append] at hm9; omega)) (by omega)).mono ?_; rintro e w' ⟨A8, m8, c8, rfl, hO8⟩; exact ⟨_, rfl, (SlB.of hO8), hO8.2⟩
        | (n + 7), hi, _ => absurd hi (by omega)

      have e1 : SlB w (a.eval (.tmp 41)) ((((L ++ (putNum xp.length ++ xp)) ++ putNum s) ++ (putNum xi.length ++ xi)) ++ putNum z) := by cases ho; exact hm.get 6 41 (by kernel_rfl)
      have hfr := hs.frame [35, 36, 37, 38, 39, 40, 41] (by kernel_rfl)
      cases ho
      rw [hfr]
      simp only [List.foldl_cons, List.foldl_nil]
      clear hfr hs hm
      generalize a.eval (.tmp 35) = u35
      generalize a.eval (.tmp 36) = u36
      generalize a.eval (.tmp 37) = u37
      generalize a.eval (.tmp 38) = u38
      generalize a.eval (.tmp 39) = u39
      generalize a.eval (.tmp 40) = u40
      generalize a.eval (.tmp 41) = u41 at e1
      unfold Oper.wp
      simp only [execOp]
      go_simp
      clear a
      have P2 := e1
      have hb2 := hb
      clear e1 hb
      have BW3 := Lib.hid (bstep BW2.out hb2)
      have r6 := (HB6.out.step hb2).cell
      obtain ⟨Ay, ny, cy, rfl, hSy, _⟩ := P2
      have hmy := u8s_len hSy
      simp only [List.length_append] at hmy
      have C9 := Lib.hid (refPutNum_nat Ay ny cy t _ _ hSy (by omega) (by omega))
      clear hSy hmy
      go_wp2_with (go_at_call 65; refine C9.out.mono ?_; rintro e w9 ⟨A9, n9, c9, rfl, hO9⟩; have BW4 := Lib.hid (bstep BW3.out hO9.2); have S9 := Lib.hid (SlB.of hO9); clear hO9 r6)
      go_roundw
      case rel => exact ⟨k + 1, by go_num, Lib.hid hlt, Lib.hid (by rw [HNX.out]; exact S9.out), BW4⟩
      case measure => simp [intOf]; omega
    · obtain rfl : k = n := by have := hk.out; omega
      go_wp2
      go_ret
      exact ⟨Ao, no, co, rfl, by unfold encI; rw [Hsl.out]; exact HS.out, HC.out, hb.out⟩
end Go.Proofs.YtjcelelgebohkaaGreatDoor

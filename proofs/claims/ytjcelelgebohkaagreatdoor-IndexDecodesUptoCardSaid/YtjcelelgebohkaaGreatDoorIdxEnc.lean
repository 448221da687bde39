/-
  The bytes of an index, the program's and the document's. Condition: entries that may be, no more than 1000000.
-/
import Derived.Test.YtjcelelgebohkaaGreatDoorBytes
import Derived.Test.YtjcelelgebohkaaGreatDoorKit
import Derived.Test.YtjcelelgebohkaaGreatDoorIdxTheirs
import Derived.Test.YtjcelelgebohkaaGreatDoorIdxLists
import Derived.Test.YtjcelelgebohkaaGreatDoorIdxFilesLaw
namespace Go.Proofs.YtjcelelgebohkaaGreatDoor
open Go.RowKit
open IdxLaw (Ent sortE)

/-- an entry's bytes -/
def entB (e : Ent) : List UInt8 := (putNum e.path.length ++ e.path) ++ (putNum e.stage.toNat ++ ((putNum e.id.length ++ e.id) ++ (putNum e.size.toNat ++ putNum e.stamp.toNat)))
/-- an index's bytes, as far as k entries -/
def encK (l : List Ent) (k : Nat) : List UInt8 := putNum l.length ++ (l.take k).flatMap entB
def encI (l : List Ent) : List UInt8 := encK l l.length
theorem encK_zero (l : List Ent) : encK l 0 = putNum l.length := by simp [encK]
theorem encK_step {l : List Ent} {k : Nat} {x : Ent} (h : l[k]? = some x) : encK l (k + 1) = encK l k ++ entB x := by
  unfold encK
  rw [List.take_add_one, h]
  simp
theorem putNum_le (n : Nat) (h : n ≤ 1099511627776) : (putNum n).length ≤ 9 := putNum_len_le (by unfold top62; omega)
/-- what is known of an entry that may be -/
theorem right_nums {e : Ent} (h : IdxLaw.right e = true) : e.path.length ≤ 150 ∧ e.id.length = 32 ∧ e.stage = (e.stage.toNat : Int) ∧ e.size = (e.size.toNat : Int) ∧ e.stamp = (e.stamp.toNat : Int) ∧ e.stage.toNat ≤ 3 ∧ e.size.toNat ≤ 1099511627776 ∧ e.stamp.toNat ≤ 1099511627776 := by
  have h1 := right_path h
  have h2 := (right_id h).2
  unfold IdxLaw.right IdxLaw.inN at h
  simp only [Bool.and_eq_true, decide_eq_true_eq] at h
  refine ⟨h1, h2, ?_, ?_, ?_, ?_, ?_, ?_⟩ <;> omega
theorem entB_len {e : Ent} (h : IdxLaw.right e = true) : (entB e).length ≤ 250 := by
  obtain ⟨h1, h2, _, _, _, h3, h4, h5⟩ := right_nums h
  have a1 := putNum_le e.path.length (by omega)
  have a2 := putNum_le e.stage.toNat (by omega)
  have a3 := putNum_le e.id.length (by omega)
  have a4 := putNum_le e.size.toNat h4
  have a5 := putNum_le e.stamp.toNat h5
  unfold entB
  simp only [List.length_append]
  omega
theorem encK_len {l : List Ent} (h : ∀ e ∈ l, IdxLaw.right e = true) (hn : l.length ≤ 1000000) : ∀ k, k ≤ l.length → (encK l k).length ≤ 9 + k * 250
  | 0, _ => by rw [encK_zero]; exact putNum_le _ (by omega)
  | k + 1, hk => by
    obtain ⟨x, hx⟩ : ∃ x, l[k]? = some x := ⟨l[k]'(by omega), List.getElem?_eq_getElem _⟩
    rw [encK_step hx, List.length_append]
    have h1 := encK_len h hn k (by omega)
    have h2 := entB_len (h x (List.mem_of_getElem? hx))
    omega
/-- what a function that makes bytes returns, without whose they are -/
def RetS (w : World) (l : List UInt8) (e : Ending) (w' : World) : Prop := ∃ (A : Option Addr) (m c : Nat), e = .returned (.slice A m c) ∧ Sl w' 1 A m (u8s l) ∧ m ≤ c ∧ Below w.heap.size w w'
def SlB (w : World) (v : Value) (l : List UInt8) : Prop := ∃ (A : Option Addr) (m c : Nat), v = .slice A m c ∧ Sl w 1 A m (u8s l) ∧ m ≤ c
theorem SlB.step {w w' : World} {v : Value} {l : List UInt8} (h : SlB w v l) (hb : Below w.heap.size w w') : SlB w' v l := by
  obtain ⟨A, m, c, h1, h2, h3⟩ := h
  exact ⟨A, m, c, h1, h2.below hb, h3⟩
theorem SlB.of {w0 w : World} {e : TypeId} {A : Option Addr} {m c : Nat} {l : List UInt8} (h : Ow w0 w e 1 A m c (u8s l)) : SlB w (.slice A m c) l := ⟨A, m, c, rfl, h.sl, h.cap.1⟩
def en1Phi (g no co s : Nat) (Ao : Option Addr) (L xp : List UInt8) : Nat → Value → World → Prop
  | 0, v, _ => v = .slice Ao no co
  | 1, v, _ => v = .pointer (some ⟨g, 0, none⟩)
  | 2, v, _ => v = S xp
  | 3, v, w => SlB w v (L ++ (putNum xp.length ++ xp))
  | 4, v, _ => v = .pointer (some ⟨g, 1, none⟩)
  | 5, v, _ => v = I ((s : Int))
  | 6, v, w => SlB w v ((L ++ (putNum xp.length ++ xp)) ++ putNum s)
  | _, _, _ => True
theorem en1Phi_mono {g no co s : Nat} {Ao : Option Addr} {L xp : List UInt8} : ∀ (j : Nat) (v : Value) (w w' : World), en1Phi g no co s Ao L xp j v w → Below w.heap.size w w' → en1Phi g no co s Ao L xp j v w' := by
  intro j v w w' h hb
  match j, h with
  | 0, h => exact h
  | 1, h => exact h
  | 2, h => exact h
  | 3, h => exact SlB.step h hb
  | 4, h => exact h
  | 5, h => exact h
  | 6, h => exact SlB.step h hb
  | (n + 7), _ => trivial
def en2Phi (g no co s z t : Nat) (Ao : Option Addr) (L xp xi : List UInt8) : Nat → Value → World → Prop
  | 0, v, _ => v = .slice Ao no co
  | 1, v, _ => v = .pointer (some ⟨g, 2, none⟩)
  | 2, v, _ => v = S xi
  | 3, v, w => SlB w v (((L ++ (putNum xp.length ++ xp)) ++ putNum s) ++ (putNum xi.length ++ xi))
  | 4, v, _ => v = .pointer (some ⟨g, 3, none⟩)
  | 5, v, _ => v = I ((z : Int))
  | 6, v, w => SlB w v ((((L ++ (putNum xp.length ++ xp)) ++ putNum s) ++ (putNum xi.length ++ xi)) ++ putNum z)
  | 7, v, _ => v = .pointer (some ⟨g, 4, none⟩)
  | 8, v, _ => v = I ((t : Int))
  | 9, v, w => SlB w v (((((L ++ (putNum xp.length ++ xp)) ++ putNum s) ++ (putNum xi.length ++ xi)) ++ putNum z) ++ putNum t)
  | _, _, _ => True
theorem en2Phi_mono {g no co s z t : Nat} {Ao : Option Addr} {L xp xi : List UInt8} : ∀ (j : Nat) (v : Value) (w w' : World), en2Phi g no co s z t Ao L xp xi j v w → Below w.heap.size w w' → en2Phi g no co s z t Ao L xp xi j v w' := by
  intro j v w w' h hb
  match j, h with
  | 0, h => exact h
  | 1, h => exact h
  | 2, h => exact h
  | 3, h => exact SlB.step h hb
  | 4, h => exact h
  | 5, h => exact h
  | 6, h => exact SlB.step h hb
  | 7, h => exact h
  | 8, h => exact h
  | 9, h => exact SlB.step h hb
  | (n + 10), _ => trivial
set_option maxRecDepth 100000 in
set_option maxHeartbeats 8000000 in
theorem encode_any (w : World) (p m n : Nat) (l : List Ent) (hI : IdxAt w p m l n) (hn : n ≤ 1000000) (hr : ∀ e ∈ l, IdxLaw.right e = true) :
    Calls Tryz.prog 21 #[.pointer (some ⟨p, 0, none⟩)] w (RetS w (encI (sortE l))) := by
  have hle : l.length ≤ 1000000 := by
    have h1 := hI.map.le
    simp [kd] at h1
    omega
  have C1 := Lib.hid (entries_any w p m n l hI hn)
  have hsl := (IdxLaw.sortE_perm l).length_eq
  have hr2 : ∀ e ∈ sortE l, IdxLaw.right e = true := fun e he => hr e ((IdxLaw.sortE_perm l).mem_iff.1 he)
  generalize sortE l = E at *
  obtain ⟨n, hn'⟩ : ∃ n, n = l.length := ⟨_, rfl⟩
  rw [← hn'] at C1 hsl hle
  have Hsl := Lib.hid hsl
  have HR := Lib.hid hr2
  have HL := Lib.hid (encK_len hr2 (by omega))
  have C2 := Lib.hid (fun W => putNum_nat none 0 0 n [] W Sl.nil_ (by omega) (by omega))
  clear hI hr hr2 hn hn' hsl
  go_enter Tryz.func21, Tryz.ntmps21
  go_wp2_with (first
    | (go_at_call 15; refine C1.out.mono ?_; rintro e w1 ⟨A, c, rfl, hO⟩; have HO := Lib.hid hO.sl; have B1 := Lib.hid hO.2; clear hO)
    | (go_at_call 60; refine (C2.out _).mono ?_; rintro e w2 ⟨A2, n2, c2, rfl, hO2⟩; have B2 := Lib.hid (bstep B1.out hO2.2); have HE := Lib.hid (HO.out.below hO2.2); have HS2 := Lib.hid (SlB.of hO2); clear hO2))
  go_loopw [4, 6, 14] (fun o p6 i wr => ∃ k : Nat, i = .int .i64 k ∧ Hid (k ≤ n) ∧ Hid (SlB wr o (encK E k)) ∧ Hid (Below w2.heap.size w2 wr)) (fun _ _ i _ => n - (intOf i).toNat)
  case atStart => exact ⟨0, rfl, Lib.hid (Nat.zero_le _), Lib.hid (by rw [encK_zero, Hsl.out]; exact HS2.out), Lib.hid (Below.refl _ _)⟩
  case round =>
    obtain ⟨k, rfl, hk, hS, hb⟩ := hrel
    obtain ⟨Ao, no, co, rfl, hS1, hS2⟩ := hS.out
    have HS := Lib.hid hS1
    have HC := Lib.hid hS2
    clear hS hS1 hS2
    by_cases hlt : k < n
    · obtain ⟨b, off, x, rfl, _, hx, x0, x1, x2, x3, x4⟩ := (HE.out.below hb.out).ent hlt
      have HX := Lib.hid (encK_step hx)
      obtain ⟨h1, h2, h3, h4, h5, h6, h7, h8⟩ := right_nums (HR.out x (List.mem_of_getElem? hx))
      have hLk := HL.out k (by rw [Hsl.out]; omega)
      clear hx
      obtain ⟨xp, xs, xi, xz, xt⟩ := x
      simp only at h1 h2 h3 h4 h5 h6 h7 h8
      obtain ⟨L, hL⟩ : ∃ L, L = encK E k := ⟨_, rfl⟩
      rw [← hL] at HS hLk HX
      clear hL
      obtain ⟨s, hs⟩ : ∃ s, s = xs.toNat := ⟨_, rfl⟩
      obtain ⟨z, hz⟩ : ∃ z, z = xz.toNat := ⟨_, rfl⟩
      obtain ⟨t, ht⟩ : ∃ t, t = xt.toNat := ⟨_, rfl⟩
      rw [← hs] at h3 h6
      rw [← hz] at h4 h7
      rw [← ht] at h5 h8
      clear hs hz ht
      subst h3 h4 h5
      have a1 := putNum_le xp.length (by omega)
      have a2 := putNum_le s (by omega)
      have a3 := putNum_le xi.length (by omega)
      have a4 := putNum_le z h7
      have a5 := putNum_le t h8
      have HNX : Hid (encK E (k + 1) = (((L ++ (putNum xp.length ++ xp)) ++ putNum s) ++ (putNum xi.length ++ xi)) ++ putNum z ++ putNum t) := Lib.hid (by rw [HX.out]; simp [entB])
      clear HX
      have HB5 := Lib.hid (Blk.new wr 36 #[S xp, I s, S xi, I z, I t])
      have b5 := balloc (Below.refl _ wr) (.cells #[S xp, I s, S xi, I z, I t] 36)
      obtain ⟨W, hW⟩ : ∃ W, W = wr.alloc (.cells #[S xp, I s, S xi, I z, I t] 36) := ⟨_, rfl⟩
      obtain ⟨g, hg⟩ : ∃ g, g = wr.heap.size := ⟨_, rfl⟩
      rw [← hW, ← hg] at HB5
      rw [← hW] at b5
      have BW := Lib.hid (bstep hb.out b5)
      have HSW := Lib.hid (HS.out.below b5)
      go_wp2
      rw [← hW]
      simp only [← hg]
      clear hW hg b5 x0 x1 x2 x3 x4
      refine wp_region_guardsL (by kernel_rfl) 7 (by kernel_rfl) ?_ (en1Phi g no co s Ao L xp) en1Phi_mono (fun i o hi ho a w hb hs hm => ?_) (fun o ho a w hb hs hm => ?_)
      · exact dst_ltT (n := 37) (by kernel_rfl)
      · exact match i, hi, ho with
        | 0, _, ho => by
            cases ho
            rw [if_pos (wanted_none _ rfl)]
            refine wp_value (st_move rfl ((hs.keeps (by kernel_rfl)).trans rfl)) ⟨_, rfl, rfl, Below.refl _ _⟩
        | 1, _, ho => by
            cases ho
            rw [if_pos (wanted_none _ rfl)]
            refine wp_value (st_field rfl ((hs.keeps (by kernel_rfl)).trans rfl) (by kernel_rfl)) ⟨_, rfl, rfl, Below.refl _ _⟩
        | 2, _, ho => by
            cases ho
            rw [if_pos (wanted_none _ rfl)]
            have hx : w.cell? ⟨g, 0, none⟩ = some (S xp) := (HB5.out.step hb).cell 0; refine wp_value (st_load rfl (hm.get 1 19 (by kernel_rfl)) (by go_simp)) ⟨_, rfl, rfl, Below.refl _ _⟩
        | 3, _, ho => by
            cases ho
            rw [if_pos (wanted_none _ rfl)]
            have S9 := HSW.out.below hb; have hm9 := u8s_len S9; have h1 := eval_getD (hm.get 0 18 (by kernel_rfl)); have h2 := eval_getD (hm.get 2 20 (by kernel_rfl)); unfold Oper.wp; simp only [execOp]; go_simp; refine (putText_any Ao no co _ xp w S9 (by first | omega | (simp only [List.length_append] at hm9; omega))).mono ?_; rintro e w' ⟨A8, m8, c8, rfl, hO8⟩; exact ⟨_, rfl, (SlB.of hO8), hO8.2⟩
        | 4, _, ho => by
            cases ho
            rw [if_pos (wanted_none _ rfl)]
            refine wp_value (st_field rfl ((hs.keeps (by kernel_rfl)).trans rfl) (by kernel_rfl)) ⟨_, rfl, rfl, Below.refl _ _⟩
        | 5, _, ho => by
            cases ho
            rw [if_pos (wanted_none _ rfl)]
            have hx : w.cell? ⟨g, 1, none⟩ = some (I ((s : Int))) := (HB5.out.step hb).cell 1; refine wp_value (st_load rfl (hm.get 4 22 (by kernel_rfl)) (by go_simp)) ⟨_, rfl, rfl, Below.refl _ _⟩
        | 6, _, ho => by
            cases ho
            rw [if_pos (wanted_none _ rfl)]
            obtain ⟨A9, m9, c9, e9, S9, hc9⟩ := (hm.get 3 21 (by kernel_rfl)); have hm9 := u8s_len S9; simp only [List.length_append] at hm9; have h1 := eval_getD e9; have h2 := eval_getD (hm.get 5 23 (by kernel_rfl)); unfold Oper.wp; simp only [execOp]; go_simp; refine (putNum_nat A9 m9 c9 s _ w S9 (by first | omega | (simp only [List.length_append] at hm9; omega)) (by omega)).mono ?_; rintro e w' ⟨A8, m8, c8, rfl, hO8⟩; exact ⟨_, rfl, (SlB.of hO8), hO8.2⟩
        | (n + 7), hi, _ => absurd hi (by omega)

      have e1 : SlB w (a.eval (.tmp 24)) ((L ++ (putNum xp.length ++ xp)) ++ putNum s) := by cases ho; exact hm.get 6 24 (by kernel_rfl)
      have hfr := hs.frame [18, 19, 20, 21, 22, 23, 24] (by kernel_rfl)
      cases ho
      rw [hfr]
      simp only [List.foldl_cons, List.foldl_nil]
      clear hfr hs hm
      generalize a.eval (.tmp 18) = u18
      generalize a.eval (.tmp 19) = u19
      generalize a.eval (.tmp 20) = u20
      generalize a.eval (.tmp 21) = u21
      generalize a.eval (.tmp 22) = u22
      generalize a.eval (.tmp 23) = u23
      generalize a.eval (.tmp 24) = u24 at e1
      unfold Oper.wp
      simp only [execOp]
      go_simp
      clear a
      have P1 := e1
      have hb1 := hb
      clear e1 hb
      obtain ⟨Av, nv, cv, rfl, hSV, _⟩ := P1
      have hmV := u8s_len hSV
      simp only [List.length_append] at hmV
      have HSV := Lib.hid hSV
      clear hSV
      have BW2 := Lib.hid (bstep BW.out hb1)
      have HB6 := Lib.hid (HB5.out.step hb1)
      go_wp2
      refine wp_region_guardsL (by kernel_rfl) 10 (by kernel_rfl) ?_ (en2Phi g nv cv s z t Av L xp xi) en2Phi_mono (fun i o hi ho a w hb hs hm => ?_) (fun o ho a w hb hs hm => ?_)
      · exact dst_ltT (n := 37) (by kernel_rfl)
      · exact match i, hi, ho with
        | 0, _, ho => by
            cases ho
            rw [if_pos (wanted_none _ rfl)]
            refine wp_value (st_move rfl ((hs.keeps (by kernel_rfl)).trans rfl)) ⟨_, rfl, rfl, Below.refl _ _⟩
        | 1, _, ho => by
            cases ho
            rw [if_pos (wanted_none _ rfl)]
            refine wp_value (st_field rfl ((hs.keeps (by kernel_rfl)).trans rfl) (by kernel_rfl)) ⟨_, rfl, rfl, Below.refl _ _⟩
        | 2, _, ho => by
            cases ho
            rw [if_pos (wanted_none _ rfl)]
            have hx : w.cell? ⟨g, 2, none⟩ = some (S xi) := (HB6.out.step hb).cell 2; refine wp_value (st_load rfl (hm.get 1 26 (by kernel_rfl)) (by go_simp)) ⟨_, rfl, rfl, Below.refl _ _⟩
        | 3, _, ho => by
            cases ho
            rw [if_pos (wanted_none _ rfl)]
            have S9 := HSV.out.below hb; have hm9 := u8s_len S9; have h1 := eval_getD (hm.get 0 25 (by kernel_rfl)); have h2 := eval_getD (hm.get 2 27 (by kernel_rfl)); unfold Oper.wp; simp only [execOp]; go_simp; refine (putText_any Av nv cv _ xi w S9 (by first | omega | (simp only [List.length_append] at hm9; omega))).mono ?_; rintro e w' ⟨A8, m8, c8, rfl, hO8⟩; exact ⟨_, rfl, (SlB.of hO8), hO8.2⟩
        | 4, _, ho => by
            cases ho
            rw [if_pos (wanted_none _ rfl)]
            refine wp_value (st_field rfl ((hs.keeps (by kernel_rfl)).trans rfl) (by kernel_rfl)) ⟨_, rfl, rfl, Below.refl _ _⟩
        | 5, _, ho => by
            cases ho
            rw [if_pos (wanted_none _ rfl)]
            have hx : w.cell? ⟨g, 3, none⟩ = some (I ((z : Int))) := (HB6.out.step hb).cell 3; refine wp_value (st_load rfl (hm.get 4 29 (by kernel_rfl)) (by go_simp)) ⟨_, rfl, rfl, Below.refl _ _⟩
        | 6, _, ho => by
            cases ho
            rw [if_pos (wanted_none _ rfl)]
            obtain ⟨A9, m9, c9, e9, S9, hc9⟩ := (hm.get 3 28 (by kernel_rfl)); have hm9 := u8s_len S9; simp only [List.length_append] at hm9; have h1 := eval_getD e9; have h2 := eval_getD (hm.get 5 30 (by kernel_rfl)); unfold Oper.wp; simp only [execOp]; go_simp; refine (putNum_nat A9 m9 c9 z _ w S9 (by first | omega | (simp only [List.length_append] at hm9; omega)) (by omega)).mono ?_; rintro e w' ⟨A8, m8, c8, rfl, hO8⟩; exact ⟨_, rfl, (SlB.of hO8), hO8.2⟩
        | 7, _, ho => by
            cases ho
            rw [if_pos (wanted_none _ rfl)]
            refine wp_value (st_field rfl ((hs.keeps (by kernel_rfl)).trans rfl) (by kernel_rfl)) ⟨_, rfl, rfl, Below.refl _ _⟩
        | 8, _, ho => by
            cases ho
            rw [if_pos (wanted_none _ rfl)]
            have hx : w.cell? ⟨g, 4, none⟩ = some (I ((t : Int))) := (HB6.out.step hb).cell 4; refine wp_value (st_load rfl (hm.get 7 32 (by kernel_rfl)) (by go_simp)) ⟨_, rfl, rfl, Below.refl _ _⟩
        | 9, _, ho => by
            cases ho
            rw [if_pos (wanted_none _ rfl)]
            obtain ⟨A9, m9, c9, e9, S9, hc9⟩ := (hm.get 6 31 (by kernel_rfl)); have hm9 := u8s_len S9; simp only [List.length_append] at hm9; have h1 := eval_getD e9; have h2 := eval_getD (hm.get 8 33 (by kernel_rfl)); unfold Oper.wp; simp only [execOp]; go_simp; refine (putNum_nat A9 m9 c9 t _ w S9 (by first | omega | (simp only [List.length_append] at hm9; omega)) (by omega)).mono ?_; rintro e w' ⟨A8, m8, c8, rfl, hO8⟩; exact ⟨_, rfl, (SlB.of hO8), hO8.2⟩
        | (n + 10), hi, _ => absurd hi (by omega)

      have e1 : SlB w (a.eval (.tmp 34)) (((((L ++ (putNum xp.length ++ xp)) ++ putNum s) ++ (putNum xi.length ++ xi)) ++ putNum z) ++ putNum t) := by cases ho; exact hm.get 9 34 (by kernel_rfl)
      have hfr := hs.frame [25, 26, 27, 28, 29, 30, 31, 32, 33, 34] (by kernel_rfl)
      cases ho
      rw [hfr]
      simp only [List.foldl_cons, List.foldl_nil]
      clear hfr hs hm
      generalize a.eval (.tmp 25) = u25
      generalize a.eval (.tmp 26) = u26
      generalize a.eval (.tmp 27) = u27
      generalize a.eval (.tmp 28) = u28
      generalize a.eval (.tmp 29) = u29
      generalize a.eval (.tmp 30) = u30
      generalize a.eval (.tmp 31) = u31
      generalize a.eval (.tmp 32) = u32
      generalize a.eval (.tmp 33) = u33
      generalize a.eval (.tmp 34) = u34 at e1
      unfold Oper.wp
      simp only [execOp]
      go_simp
      clear a
      have P2 := e1
      have hb2 := hb
      clear e1 hb
      have BW3 := Lib.hid (bstep BW2.out hb2)
      go_wp2
      go_roundw
      case rel => exact ⟨k + 1, by go_num, Lib.hid hlt, Lib.hid (by rw [HNX.out]; exact P2), BW3⟩
      case measure => simp [intOf]; omega
    · obtain rfl : k = n := by have := hk.out; omega
      go_wp2
      go_ret
      exact ⟨Ao, no, co, rfl, by unfold encI; rw [Hsl.out]; exact HS.out, HC.out, bstep B2.out hb.out⟩
end Go.Proofs.YtjcelelgebohkaaGreatDoor

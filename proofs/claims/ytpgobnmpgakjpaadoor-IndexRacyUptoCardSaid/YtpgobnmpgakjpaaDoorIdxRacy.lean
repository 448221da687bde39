/-
  dolmenlaw14.IndexRacy: what is fresh has the size and stamp that were set, and a stamp below the time at which it is asked. Conditions: the path is shorter than 2147483648 bytes; MaxLen holds an int.
-/
import Derived.Test.YtpgobnmpgakjpaaDoorAwake14
import Derived.Test.YtpgobnmpgakjpaaDoorAnyGuards
namespace Go.Proofs.YtpgobnmpgakjpaaDoor
open Go.RowKit
open IdxLaw (Ent Key zE)

/-- every slot that is written is there -/
def dstAll (ops : Array Oper) (n : Nat) : Bool := ops.all (fun o => match o.dst with | some d => decide (d < n) | none => true)
theorem dst_lt {ops : Array Oper} {n : Nat} (h : dstAll ops n = true) (i : Nat) (o : Oper) (d : Nat) (ho : ops[i]? = some o) (hd : o.dst = some d) : d < n := by
  have h1 := Array.all_eq_true_iff_forall_mem.1 h o (Array.mem_of_getElem? ho)
  rw [hd] at h1
  simpa using h1
theorem fls_tru (b : Bool) : b = false ∨ b = true := by cases b <;> simp
/-- what is known of each operation's value -/
def racyPhi (p g4 : Nat) (path : List UInt8) (sz sp size stamp now : Int) (b1 b2 b3 : Bool) : Nat → Value → World → Prop
  | 0, v, _ => v = .bool true
  | 1, v, _ => v = .bool true
  | 2, v, _ => v = .pointer (some ⟨p, 0, none⟩)
  | 3, v, _ => v = .pointer (some ⟨g4, 0, none⟩)
  | 4, v, _ => v = S path
  | 5, v, _ => v = I size
  | 6, v, _ => v = I stamp
  | 7, v, _ => v = I now
  | 8, v, _ => v = .bool ((b1 && b2) && b3)
  | 9, v, _ => v = I size
  | 10, v, _ => v = .pointer (some ⟨g4, 3, none⟩)
  | 11, v, _ => v = I sz
  | 12, v, _ => v = .bool b1
  | 13, v, _ => v = .bool b1
  | 14, v, _ => (b1 = true → v = I stamp)
  | 15, v, _ => (b1 = true → v = .pointer (some ⟨g4, 4, none⟩))
  | 16, v, _ => (b1 = true → v = I sp)
  | 17, v, _ => (b1 = true → v = .bool b2)
  | 18, v, _ => v = .bool (b1 && b2)
  | 19, v, _ => v = .bool (b1 && b2)
  | 20, v, _ => ((b1 && b2) = true → v = I stamp)
  | 21, v, _ => ((b1 && b2) = true → v = I now)
  | 22, v, _ => ((b1 && b2) = true → v = .bool b3)
  | 23, v, _ => v = .bool ((b1 && b2) && b3)
  | 24, v, _ => v = .bool true
  | 25, v, _ => v = .bool true
  | 26, v, _ => v = .bool true
  | 27, v, _ => v = .pointer (some ⟨p, 0, none⟩)
  | 28, v, _ => v = .pointer (some ⟨g4, 0, none⟩)
  | 29, v, _ => v = S path
  | 30, v, _ => v = .pointer (some ⟨g4, 3, none⟩)
  | 31, v, _ => v = I sz
  | 32, v, _ => v = .pointer (some ⟨g4, 4, none⟩)
  | 33, v, _ => v = I sp
  | 34, v, _ => v = .pointer (some ⟨g4, 4, none⟩)
  | 35, v, _ => v = I sp
  | 36, v, _ => v = .bool false
  | 37, v, _ => v = .bool true
  | 38, v, _ => v = .bool true
  | 39, v, _ => v = .bool true
  | 40, v, _ => v = .pointer (some ⟨p, 0, none⟩)
  | 41, v, _ => v = .pointer (some ⟨g4, 0, none⟩)
  | 42, v, _ => v = S path
  | 43, v, _ => v = .pointer (some ⟨g4, 3, none⟩)
  | 44, v, _ => v = I sz
  | 45, v, _ => v = .pointer (some ⟨g4, 4, none⟩)
  | 46, v, _ => v = I sp
  | 47, v, _ => v = .pointer (some ⟨g4, 4, none⟩)
  | 48, v, _ => v = I sp
  | 49, v, _ => v = I (sp + 1)
  | 50, v, _ => v = .bool true
  | 51, v, _ => v = .bool true
  | _, _, _ => True
theorem racyPhi_mono {p g4 : Nat} {path : List UInt8} {sz sp size stamp now : Int} {b1 b2 b3 : Bool} : ∀ (j : Nat) (v : Value) (w w' : World), racyPhi p g4 path sz sp size stamp now b1 b2 b3 j v w → Below w.heap.size w w' → racyPhi p g4 path sz sp size stamp now b1 b2 b3 j v w' := by
  intro j v w w' h _
  match j, h with
  | 0, h => exact h
  | 1, h => exact h
  | 2, h => exact h
  | 3, h => exact h
  | 4, h => exact h
  | 5, h => exact h
  | 6, h => exact h
  | 7, h => exact h
  | 8, h => exact h
  | 9, h => exact h
  | 10, h => exact h
  | 11, h => exact h
  | 12, h => exact h
  | 13, h => exact h
  | 14, h => exact h
  | 15, h => exact h
  | 16, h => exact h
  | 17, h => exact h
  | 18, h => exact h
  | 19, h => exact h
  | 20, h => exact h
  | 21, h => exact h
  | 22, h => exact h
  | 23, h => exact h
  | 24, h => exact h
  | 25, h => exact h
  | 26, h => exact h
  | 27, h => exact h
  | 28, h => exact h
  | 29, h => exact h
  | 30, h => exact h
  | 31, h => exact h
  | 32, h => exact h
  | 33, h => exact h
  | 34, h => exact h
  | 35, h => exact h
  | 36, h => exact h
  | 37, h => exact h
  | 38, h => exact h
  | 39, h => exact h
  | 40, h => exact h
  | 41, h => exact h
  | 42, h => exact h
  | 43, h => exact h
  | 44, h => exact h
  | 45, h => exact h
  | 46, h => exact h
  | 47, h => exact h
  | 48, h => exact h
  | 49, h => exact h
  | 50, h => exact h
  | 51, h => exact h
  | (n + 52), _ => trivial
theorem right_int {x : Ent} (h : IdxLaw.right x = true) : 0 ≤ x.size ∧ x.size ≤ 1099511627776 ∧ 0 ≤ x.stamp ∧ x.stamp ≤ 1099511627776 := by
  unfold IdxLaw.right IdxLaw.inN at h
  simp only [Bool.and_eq_true, decide_eq_true_eq] at h
  omega
set_option maxHeartbeats 4000000 in
set_option maxRecDepth 100000 in
theorem indexRacy_law (x : Ent) (size stamp now : Int) (w : World) (hx : x.path.length ≤ 2147483648) (hM : MaxL w) :
    Calls Tryd.prog 4 #[entV x, I size, I stamp, I now] w fun e w' => e = .returned (.bool true) ∧ Below w.heap.size w w' := by
  have HM := Lib.hid (hM.step (balloc (Below.refl _ w) (.cells #[S x.path, I x.stage, S x.id, I x.size, I x.stamp] 24)))
  have HE0 := Lib.hid (Blk.new w 24 #[S x.path, I x.stage, S x.id, I x.size, I x.stamp])
  clear hM
  have C0 := Lib.hid (awake14_any (w.alloc (.cells #[S x.path, I x.stage, S x.id, I x.size, I x.stamp] 24)) HM.out)
  by_cases hr : IdxLaw.right x = true ∧ x.stage = 0
  · have hset := Lib.hid (set_yes (l := []) hr.1 hr.2)
    have hri := right_int hr.1
    have hrp := right_path hr.1
    have hst := hr.2
    clear hr
    obtain ⟨path, stage, id, sz, sp⟩ := x
    simp only at hri hrp hx hst
    subst hst
    go_enter Tryd.func4, Tryd.ntmps4
    go_wp2_with (first
      | (go_at_call 6; refine C0.out.mono ?_; rintro e w1 ⟨rfl, b1⟩; have B1 := Lib.hid (bstep (balloc (Below.refl _ w) _) b1); have HE1 := Lib.hid (HE0.out.step b1); have HM1 := Lib.hid (HM.out.step b1); clear b1)
      | (go_at_call 15; refine (new_any _).mono ?_; rintro e w2 ⟨p, m, rfl, hI2, hp2, hm2, b2⟩; have B2 := Lib.hid (bstep B1.out b2); have HE2 := HE1.out.step b2; have rE2 := HE2.cell; have HE2h := Lib.hid HE2; have HM2 := Lib.hid (HM1.out.step b2); have I2 := Lib.hid hI2; have hml : w1.heap.size ≤ m := hm2; have Hm := Lib.hid (Nat.le_trans B1.out.size hm2); clear b2 hI2 hp2 hm2 HE2)
      | (go_at_call 10; refine (mine_any ⟨path, 0, id, sz, sp⟩ _).mono ?_; rintro e w3 ⟨rfl, b3⟩; have B3 := Lib.hid (bstep B2.out b3); have HE3 := Lib.hid (HE2h.out.step b3); have HM3 := Lib.hid (HM2.out.step b3); have I3 := Lib.hid (I2.out.step b3); clear b3)
      | (go_at_call 9; refine (set_any w3 p m 0 [] ⟨path, 0, id, sz, sp⟩ I3.out (by omega) awr1 hx HM3.out).mono ?_; rw [hset.out]; rintro e w4 ⟨rfl, hI4, hF4⟩; have I4 := Lib.hid hI4; have B4 := Lib.hid (below_fr B3.out hF4 Hm.out); have HE4 := hF4.blk HE3.out (by have := HE1.out.lt; show ¬ w.heap.size = m; omega); have rE4 := HE4.cell; have HE := Lib.hid HE4; clear hI4 hF4 HE4))
    obtain ⟨b1, hb1⟩ : ∃ b1, b1 = (size == sz) := ⟨_, rfl⟩
    obtain ⟨b2, hb2⟩ : ∃ b2, b2 = (stamp == sp) := ⟨_, rfl⟩
    obtain ⟨b3, hb3⟩ : ∃ b3, b3 = decide (stamp < now) := ⟨_, rfl⟩
    have hd1 := Lib.hid hb1
    have hd2 := Lib.hid hb2
    have hd3 := Lib.hid hb3
    clear hb1 hb2 hb3
    have hfind : IdxLaw.find [(⟨path, 0, id, sz, sp⟩ : Ent)] (path, 0) = some ⟨path, 0, id, sz, sp⟩ := by simp [IdxLaw.find, Ent.key]
    have hpl : path.length ≤ maxLen := by unfold maxLen; omega
    have hcl : IdxLaw.clear [] path = [] := rfl
    rw [hcl] at I4
    have fr1 : freshB (some (⟨path, 0, id, sz, sp⟩ : Ent)) size stamp now = ((b1 && b2) && b3) := by
      rw [hd1.out, hd2.out, hd3.out]
      unfold freshB
      grind
    have fr2 : freshB (some (⟨path, 0, id, sz, sp⟩ : Ent)) sz sp sp = false := by
      unfold freshB
      grind
    have fr3 : freshB (some (⟨path, 0, id, sz, sp⟩ : Ent)) sz sp (sp + 1) = true := by
      unfold freshB
      grind
    have HF : Hid (∀ (size stamp now : Int) (W : World), Below w4.heap.size w4 W → Calls Tryd.prog 16 #[.pointer (some ⟨p, 0, none⟩), S path, I size, I stamp, I now] W fun e w' => e = .returned (.bool (freshB (some ⟨path, 0, id, sz, sp⟩) size stamp now)) ∧ Below W.heap.size W w') := Lib.hid (fun size stamp now W h => by
      have := fresh_any W p m _ [⟨path, 0, id, sz, sp⟩] path size stamp now (I4.out.step h) hpl
      rwa [hfind] at this)
    have HF1 := Lib.hid (HF.out size stamp now)
    have HF2 := Lib.hid (HF.out sz sp sp)
    have HF3 := Lib.hid (HF.out sz sp (sp + 1))
    rw [fr1] at HF1
    rw [fr2] at HF2
    rw [fr3] at HF3
    clear HF fr1 fr2 fr3 hfind hpl hcl rE4 rE2 hml
    obtain ⟨hsz0, hsz1, hsp0, hsp1⟩ := hri
    obtain ⟨g4, hg4⟩ : ∃ g, g = w.heap.size := ⟨_, rfl⟩
    rw [← hg4] at HE
    simp only [← hg4]
    clear hg4
    refine wp_region_guards (by kernel_rfl) 52 (by kernel_rfl) ?_ (racyPhi p g4 path sz sp size stamp now b1 b2 b3) racyPhi_mono (fun i o hi ho a w hb hs hm => ?_) (fun o ho a w hb hs hm => ?_)
    · exact dst_lt (n := 79) (by kernel_rfl)
    · exact match i, hi, ho with
    | 0, _, ho => by
        cases ho
        rw [if_pos (wanted_none _ rfl)]
        refine wp_value (st_move rfl ((hs.keeps (by kernel_rfl)).trans rfl)) ⟨_, rfl, rfl, Below.refl _ _⟩
    | 1, _, ho => by
        cases ho
        rw [if_pos (wanted_none _ rfl)]
        refine wp_value (st_move rfl (hm.get 0 27 (by kernel_rfl))) ⟨_, rfl, rfl, Below.refl _ _⟩
    | 2, _, ho => by
        cases ho
        generalize hW : Region.wanted _ _ = W
        obtain rfl : W = (true == true) := hW.symm.trans (wanted_of rfl rfl rfl (show a.eval (.tmp 28) = .bool true from (hm.get 1 28 (by kernel_rfl))))
        clear hW
        rw [if_pos (show (true == true) = true by decide)]
        refine wp_value (st_move rfl ((hs.keeps (by kernel_rfl)).trans rfl)) ⟨_, rfl, rfl, Below.refl _ _⟩
    | 3, _, ho => by
        cases ho
        generalize hW : Region.wanted _ _ = W
        obtain rfl : W = (true == true) := hW.symm.trans (wanted_of rfl rfl rfl (show a.eval (.tmp 28) = .bool true from (hm.get 1 28 (by kernel_rfl))))
        clear hW
        rw [if_pos (show (true == true) = true by decide)]
        refine wp_value (st_field rfl ((hs.keeps (by kernel_rfl)).trans rfl) (by kernel_rfl)) ⟨_, rfl, rfl, Below.refl _ _⟩
    | 4, _, ho => by
        cases ho
        generalize hW : Region.wanted _ _ = W
        obtain rfl : W = (true == true) := hW.symm.trans (wanted_of rfl rfl rfl (show a.eval (.tmp 28) = .bool true from (hm.get 1 28 (by kernel_rfl))))
        clear hW
        rw [if_pos (show (true == true) = true by decide)]
        have hx : w.cell? ⟨g4, 0, none⟩ = some (S path) := (HE.out.step hb).cell 0; refine wp_value (st_load rfl (hm.get 3 30 (by kernel_rfl)) (by go_simp)) ⟨_, rfl, rfl, Below.refl _ _⟩
    | 5, _, ho => by
        cases ho
        generalize hW : Region.wanted _ _ = W
        obtain rfl : W = (true == true) := hW.symm.trans (wanted_of rfl rfl rfl (show a.eval (.tmp 28) = .bool true from (hm.get 1 28 (by kernel_rfl))))
        clear hW
        rw [if_pos (show (true == true) = true by decide)]
        refine wp_value (st_move rfl ((hs.keeps (by kernel_rfl)).trans rfl)) ⟨_, rfl, rfl, Below.refl _ _⟩
    | 6, _, ho => by
        cases ho
        generalize hW : Region.wanted _ _ = W
        obtain rfl : W = (true == true) := hW.symm.trans (wanted_of rfl rfl rfl (show a.eval (.tmp 28) = .bool true from (hm.get 1 28 (by kernel_rfl))))
        clear hW
        rw [if_pos (show (true == true) = true by decide)]
        refine wp_value (st_move rfl ((hs.keeps (by kernel_rfl)).trans rfl)) ⟨_, rfl, rfl, Below.refl _ _⟩
    | 7, _, ho => by
        cases ho
        generalize hW : Region.wanted _ _ = W
        obtain rfl : W = (true == true) := hW.symm.trans (wanted_of rfl rfl rfl (show a.eval (.tmp 28) = .bool true from (hm.get 1 28 (by kernel_rfl))))
        clear hW
        rw [if_pos (show (true == true) = true by decide)]
        refine wp_value (st_move rfl ((hs.keeps (by kernel_rfl)).trans rfl)) ⟨_, rfl, rfl, Below.refl _ _⟩
    | 8, _, ho => by
        cases ho
        generalize hW : Region.wanted _ _ = W
        obtain rfl : W = (true == true) := hW.symm.trans (wanted_of rfl rfl rfl (show a.eval (.tmp 28) = .bool true from (hm.get 1 28 (by kernel_rfl))))
        clear hW
        rw [if_pos (show (true == true) = true by decide)]
        have h1 := eval_getD (hm.get 2 29 (by kernel_rfl)); have h2 := eval_getD (hm.get 4 31 (by kernel_rfl)); have h3 := eval_getD (hm.get 5 32 (by kernel_rfl)); have h4 := eval_getD (hm.get 6 33 (by kernel_rfl)); have h5 := eval_getD (hm.get 7 34 (by kernel_rfl)); unfold Oper.wp; simp only [execOp]; go_simp; refine (HF1.out w hb).mono ?_; rintro e w' ⟨rfl, hb'⟩; exact ⟨_, rfl, rfl, hb'⟩
    | 9, _, ho => by
        cases ho
        generalize hW : Region.wanted _ _ = W
        obtain rfl : W = (true == true) := hW.symm.trans (wanted_of rfl rfl rfl (show a.eval (.tmp 28) = .bool true from (hm.get 1 28 (by kernel_rfl))))
        clear hW
        rw [if_pos (show (true == true) = true by decide)]
        refine wp_value (st_move rfl ((hs.keeps (by kernel_rfl)).trans rfl)) ⟨_, rfl, rfl, Below.refl _ _⟩
    | 10, _, ho => by
        cases ho
        generalize hW : Region.wanted _ _ = W
        obtain rfl : W = (true == true) := hW.symm.trans (wanted_of rfl rfl rfl (show a.eval (.tmp 28) = .bool true from (hm.get 1 28 (by kernel_rfl))))
        clear hW
        rw [if_pos (show (true == true) = true by decide)]
        refine wp_value (st_field rfl ((hs.keeps (by kernel_rfl)).trans rfl) (by kernel_rfl)) ⟨_, rfl, rfl, Below.refl _ _⟩
    | 11, _, ho => by
        cases ho
        generalize hW : Region.wanted _ _ = W
        obtain rfl : W = (true == true) := hW.symm.trans (wanted_of rfl rfl rfl (show a.eval (.tmp 28) = .bool true from (hm.get 1 28 (by kernel_rfl))))
        clear hW
        rw [if_pos (show (true == true) = true by decide)]
        have hx : w.cell? ⟨g4, 3, none⟩ = some (I sz) := (HE.out.step hb).cell 3; refine wp_value (st_load rfl (hm.get 10 37 (by kernel_rfl)) (by go_simp)) ⟨_, rfl, rfl, Below.refl _ _⟩
    | 12, _, ho => by
        cases ho
        generalize hW : Region.wanted _ _ = W
        obtain rfl : W = (true == true) := hW.symm.trans (wanted_of rfl rfl rfl (show a.eval (.tmp 28) = .bool true from (hm.get 1 28 (by kernel_rfl))))
        clear hW
        rw [if_pos (show (true == true) = true by decide)]
        have h1 := eval_getD (hm.get 9 36 (by kernel_rfl)); have h2 := eval_getD (hm.get 11 38 (by kernel_rfl)); unfold Oper.wp; simp only [execOp]; go_simp; exact ⟨_, rfl, (show Value.bool _ = Value.bool _ by rw [hd1.out]), Below.refl _ _⟩
    | 13, _, ho => by
        cases ho
        generalize hW : Region.wanted _ _ = W
        obtain rfl : W = (true == true) := hW.symm.trans (wanted_of rfl rfl rfl (show a.eval (.tmp 28) = .bool true from (hm.get 1 28 (by kernel_rfl))))
        clear hW
        rw [if_pos (show (true == true) = true by decide)]
        refine wp_value (st_move rfl (hm.get 12 39 (by kernel_rfl))) ⟨_, rfl, rfl, Below.refl _ _⟩
    | 14, _, ho => by
        cases ho
        generalize hW : Region.wanted _ _ = W
        obtain rfl : W = (b1 == true) := hW.symm.trans (wanted_of rfl rfl rfl (show a.eval (.tmp 40) = .bool b1 from (hm.get 13 40 (by kernel_rfl))))
        clear hW
        rcases fls_tru (b1) with hf | hf
        · rw [if_neg (show ¬ (b1 == true) = true by rw [hf]; decide)]; exact fun h => Bool.noConfusion (h.symm.trans hf)
        · rw [if_pos (show (b1 == true) = true by rw [hf]; decide)]
          refine wp_value (st_move rfl ((hs.keeps (by kernel_rfl)).trans rfl)) ⟨_, rfl, fun _ => rfl, Below.refl _ _⟩
    | 15, _, ho => by
        cases ho
        generalize hW : Region.wanted _ _ = W
        obtain rfl : W = (b1 == true) := hW.symm.trans (wanted_of rfl rfl rfl (show a.eval (.tmp 40) = .bool b1 from (hm.get 13 40 (by kernel_rfl))))
        clear hW
        rcases fls_tru (b1) with hf | hf
        · rw [if_neg (show ¬ (b1 == true) = true by rw [hf]; decide)]; exact fun h => Bool.noConfusion (h.symm.trans hf)
        · rw [if_pos (show (b1 == true) = true by rw [hf]; decide)]
          refine wp_value (st_field rfl ((hs.keeps (by kernel_rfl)).trans rfl) (by kernel_rfl)) ⟨_, rfl, fun _ => rfl, Below.refl _ _⟩
    | 16, _, ho => by
        cases ho
        generalize hW : Region.wanted _ _ = W
        obtain rfl : W = (b1 == true) := hW.symm.trans (wanted_of rfl rfl rfl (show a.eval (.tmp 40) = .bool b1 from (hm.get 13 40 (by kernel_rfl))))
        clear hW
        rcases fls_tru (b1) with hf | hf
        · rw [if_neg (show ¬ (b1 == true) = true by rw [hf]; decide)]; exact fun h => Bool.noConfusion (h.symm.trans hf)
        · rw [if_pos (show (b1 == true) = true by rw [hf]; decide)]
          have hx : w.cell? ⟨g4, 4, none⟩ = some (I sp) := (HE.out.step hb).cell 4; refine wp_value (st_load rfl ((hm.get 15 42 (by kernel_rfl)) hf) (by go_simp)) ⟨_, rfl, fun _ => rfl, Below.refl _ _⟩
    | 17, _, ho => by
        cases ho
        generalize hW : Region.wanted _ _ = W
        obtain rfl : W = (b1 == true) := hW.symm.trans (wanted_of rfl rfl rfl (show a.eval (.tmp 40) = .bool b1 from (hm.get 13 40 (by kernel_rfl))))
        clear hW
        rcases fls_tru (b1) with hf | hf
        · rw [if_neg (show ¬ (b1 == true) = true by rw [hf]; decide)]; exact fun h => Bool.noConfusion (h.symm.trans hf)
        · rw [if_pos (show (b1 == true) = true by rw [hf]; decide)]
          have h1 := eval_getD ((hm.get 14 41 (by kernel_rfl)) hf); have h2 := eval_getD ((hm.get 16 43 (by kernel_rfl)) hf); unfold Oper.wp; simp only [execOp]; go_simp; exact ⟨_, rfl, fun _ => (show Value.bool _ = Value.bool _ by rw [hd2.out]), Below.refl _ _⟩
    | 18, _, ho => by
        cases ho
        generalize hW : Region.wanted _ _ = W
        obtain rfl : W = (true == true) := hW.symm.trans (wanted_of rfl rfl rfl (show a.eval (.tmp 28) = .bool true from (hm.get 1 28 (by kernel_rfl))))
        clear hW
        rw [if_pos (show (true == true) = true by decide)]
        have h1 := eval_getD (hm.get 13 40 (by kernel_rfl))
        have h2 := (hm.get 17 44 (by kernel_rfl))
        rcases fls_tru (b1) with hg | hg
        · rw [hg] at h1
          unfold Oper.wp; simp only [execOp]; go_simp
          exact ⟨_, rfl, (show Value.bool _ = Value.bool _ by first | (rw [hg]; simp) | simp), Below.refl _ _⟩
        · rw [hg] at h1
          have h3 := eval_getD (h2 hg)
          unfold Oper.wp; simp only [execOp]; go_simp
          exact ⟨_, rfl, (show Value.bool _ = Value.bool _ by first | (rw [hg]; simp) | simp), Below.refl _ _⟩
    | 19, _, ho => by
        cases ho
        generalize hW : Region.wanted _ _ = W
        obtain rfl : W = (true == true) := hW.symm.trans (wanted_of rfl rfl rfl (show a.eval (.tmp 28) = .bool true from (hm.get 1 28 (by kernel_rfl))))
        clear hW
        rw [if_pos (show (true == true) = true by decide)]
        refine wp_value (st_move rfl (hm.get 18 45 (by kernel_rfl))) ⟨_, rfl, rfl, Below.refl _ _⟩
    | 20, _, ho => by
        cases ho
        generalize hW : Region.wanted _ _ = W
        obtain rfl : W = ((b1 && b2) == true) := hW.symm.trans (wanted_of rfl rfl rfl (show a.eval (.tmp 46) = .bool (b1 && b2) from (hm.get 19 46 (by kernel_rfl))))
        clear hW
        rcases fls_tru (b1 && b2) with hf | hf
        · rw [if_neg (show ¬ ((b1 && b2) == true) = true by rw [hf]; decide)]; exact fun h => Bool.noConfusion (h.symm.trans hf)
        · rw [if_pos (show ((b1 && b2) == true) = true by rw [hf]; decide)]
          refine wp_value (st_move rfl ((hs.keeps (by kernel_rfl)).trans rfl)) ⟨_, rfl, fun _ => rfl, Below.refl _ _⟩
    | 21, _, ho => by
        cases ho
        generalize hW : Region.wanted _ _ = W
        obtain rfl : W = ((b1 && b2) == true) := hW.symm.trans (wanted_of rfl rfl rfl (show a.eval (.tmp 46) = .bool (b1 && b2) from (hm.get 19 46 (by kernel_rfl))))
        clear hW
        rcases fls_tru (b1 && b2) with hf | hf
        · rw [if_neg (show ¬ ((b1 && b2) == true) = true by rw [hf]; decide)]; exact fun h => Bool.noConfusion (h.symm.trans hf)
        · rw [if_pos (show ((b1 && b2) == true) = true by rw [hf]; decide)]
          refine wp_value (st_move rfl ((hs.keeps (by kernel_rfl)).trans rfl)) ⟨_, rfl, fun _ => rfl, Below.refl _ _⟩
    | 22, _, ho => by
        cases ho
        generalize hW : Region.wanted _ _ = W
        obtain rfl : W = ((b1 && b2) == true) := hW.symm.trans (wanted_of rfl rfl rfl (show a.eval (.tmp 46) = .bool (b1 && b2) from (hm.get 19 46 (by kernel_rfl))))
        clear hW
        rcases fls_tru (b1 && b2) with hf | hf
        · rw [if_neg (show ¬ ((b1 && b2) == true) = true by rw [hf]; decide)]; exact fun h => Bool.noConfusion (h.symm.trans hf)
        · rw [if_pos (show ((b1 && b2) == true) = true by rw [hf]; decide)]
          have h1 := eval_getD ((hm.get 20 47 (by kernel_rfl)) hf); have h2 := eval_getD ((hm.get 21 48 (by kernel_rfl)) hf); unfold Oper.wp; simp only [execOp]; go_simp; exact ⟨_, rfl, fun _ => (show Value.bool _ = Value.bool _ by rw [hd3.out]), Below.refl _ _⟩
    | 23, _, ho => by
        cases ho
        generalize hW : Region.wanted _ _ = W
        obtain rfl : W = (true == true) := hW.symm.trans (wanted_of rfl rfl rfl (show a.eval (.tmp 28) = .bool true from (hm.get 1 28 (by kernel_rfl))))
        clear hW
        rw [if_pos (show (true == true) = true by decide)]
        have h1 := eval_getD (hm.get 19 46 (by kernel_rfl))
        have h2 := (hm.get 22 49 (by kernel_rfl))
        rcases fls_tru (b1 && b2) with hg | hg
        · rw [hg] at h1
          unfold Oper.wp; simp only [execOp]; go_simp
          exact ⟨_, rfl, (show Value.bool _ = Value.bool _ by first | (rw [hg]; simp) | simp), Below.refl _ _⟩
        · rw [hg] at h1
          have h3 := eval_getD (h2 hg)
          unfold Oper.wp; simp only [execOp]; go_simp
          exact ⟨_, rfl, (show Value.bool _ = Value.bool _ by first | (rw [hg]; simp) | simp), Below.refl _ _⟩
    | 24, _, ho => by
        cases ho
        generalize hW : Region.wanted _ _ = W
        obtain rfl : W = (true == true) := hW.symm.trans (wanted_of rfl rfl rfl (show a.eval (.tmp 28) = .bool true from (hm.get 1 28 (by kernel_rfl))))
        clear hW
        rw [if_pos (show (true == true) = true by decide)]
        have h1 := eval_getD (hm.get 8 35 (by kernel_rfl)); have h2 := eval_getD (hm.get 23 50 (by kernel_rfl)); unfold Oper.wp; simp only [execOp]; go_simp; exact ⟨_, rfl, (by first | rfl | simp), Below.refl _ _⟩
    | 25, _, ho => by
        cases ho
        rw [if_pos (wanted_none _ rfl)]
        have h1 := eval_getD (hm.get 1 28 (by kernel_rfl)); have h3 := eval_getD (hm.get 24 51 (by kernel_rfl)); unfold Oper.wp; simp only [execOp]; go_simp; exact ⟨_, rfl, rfl, Below.refl _ _⟩
    | 26, _, ho => by
        cases ho
        rw [if_pos (wanted_none _ rfl)]
        refine wp_value (st_move rfl (hm.get 25 52 (by kernel_rfl))) ⟨_, rfl, rfl, Below.refl _ _⟩
    | 27, _, ho => by
        cases ho
        generalize hW : Region.wanted _ _ = W
        obtain rfl : W = (true == true) := hW.symm.trans (wanted_of rfl rfl rfl (show a.eval (.tmp 53) = .bool true from (hm.get 26 53 (by kernel_rfl))))
        clear hW
        rw [if_pos (show (true == true) = true by decide)]
        refine wp_value (st_move rfl ((hs.keeps (by kernel_rfl)).trans rfl)) ⟨_, rfl, rfl, Below.refl _ _⟩
    | 28, _, ho => by
        cases ho
        generalize hW : Region.wanted _ _ = W
        obtain rfl : W = (true == true) := hW.symm.trans (wanted_of rfl rfl rfl (show a.eval (.tmp 53) = .bool true from (hm.get 26 53 (by kernel_rfl))))
        clear hW
        rw [if_pos (show (true == true) = true by decide)]
        refine wp_value (st_field rfl ((hs.keeps (by kernel_rfl)).trans rfl) (by kernel_rfl)) ⟨_, rfl, rfl, Below.refl _ _⟩
    | 29, _, ho => by
        cases ho
        generalize hW : Region.wanted _ _ = W
        obtain rfl : W = (true == true) := hW.symm.trans (wanted_of rfl rfl rfl (show a.eval (.tmp 53) = .bool true from (hm.get 26 53 (by kernel_rfl))))
        clear hW
        rw [if_pos (show (true == true) = true by decide)]
        have hx : w.cell? ⟨g4, 0, none⟩ = some (S path) := (HE.out.step hb).cell 0; refine wp_value (st_load rfl (hm.get 28 55 (by kernel_rfl)) (by go_simp)) ⟨_, rfl, rfl, Below.refl _ _⟩
    | 30, _, ho => by
        cases ho
        generalize hW : Region.wanted _ _ = W
        obtain rfl : W = (true == true) := hW.symm.trans (wanted_of rfl rfl rfl (show a.eval (.tmp 53) = .bool true from (hm.get 26 53 (by kernel_rfl))))
        clear hW
        rw [if_pos (show (true == true) = true by decide)]
        refine wp_value (st_field rfl ((hs.keeps (by kernel_rfl)).trans rfl) (by kernel_rfl)) ⟨_, rfl, rfl, Below.refl _ _⟩
    | 31, _, ho => by
        cases ho
        generalize hW : Region.wanted _ _ = W
        obtain rfl : W = (true == true) := hW.symm.trans (wanted_of rfl rfl rfl (show a.eval (.tmp 53) = .bool true from (hm.get 26 53 (by kernel_rfl))))
        clear hW
        rw [if_pos (show (true == true) = true by decide)]
        have hx : w.cell? ⟨g4, 3, none⟩ = some (I sz) := (HE.out.step hb).cell 3; refine wp_value (st_load rfl (hm.get 30 57 (by kernel_rfl)) (by go_simp)) ⟨_, rfl, rfl, Below.refl _ _⟩
    | 32, _, ho => by
        cases ho
        generalize hW : Region.wanted _ _ = W
        obtain rfl : W = (true == true) := hW.symm.trans (wanted_of rfl rfl rfl (show a.eval (.tmp 53) = .bool true from (hm.get 26 53 (by kernel_rfl))))
        clear hW
        rw [if_pos (show (true == true) = true by decide)]
        refine wp_value (st_field rfl ((hs.keeps (by kernel_rfl)).trans rfl) (by kernel_rfl)) ⟨_, rfl, rfl, Below.refl _ _⟩
    | 33, _, ho => by
        cases ho
        generalize hW : Region.wanted _ _ = W
        obtain rfl : W = (true == true) := hW.symm.trans (wanted_of rfl rfl rfl (show a.eval (.tmp 53) = .bool true from (hm.get 26 53 (by kernel_rfl))))
        clear hW
        rw [if_pos (show (true == true) = true by decide)]
        have hx : w.cell? ⟨g4, 4, none⟩ = some (I sp) := (HE.out.step hb).cell 4; refine wp_value (st_load rfl (hm.get 32 59 (by kernel_rfl)) (by go_simp)) ⟨_, rfl, rfl, Below.refl _ _⟩
    | 34, _, ho => by
        cases ho
        generalize hW : Region.wanted _ _ = W
        obtain rfl : W = (true == true) := hW.symm.trans (wanted_of rfl rfl rfl (show a.eval (.tmp 53) = .bool true from (hm.get 26 53 (by kernel_rfl))))
        clear hW
        rw [if_pos (show (true == true) = true by decide)]
        refine wp_value (st_field rfl ((hs.keeps (by kernel_rfl)).trans rfl) (by kernel_rfl)) ⟨_, rfl, rfl, Below.refl _ _⟩
    | 35, _, ho => by
        cases ho
        generalize hW : Region.wanted _ _ = W
        obtain rfl : W = (true == true) := hW.symm.trans (wanted_of rfl rfl rfl (show a.eval (.tmp 53) = .bool true from (hm.get 26 53 (by kernel_rfl))))
        clear hW
        rw [if_pos (show (true == true) = true by decide)]
        have hx : w.cell? ⟨g4, 4, none⟩ = some (I sp) := (HE.out.step hb).cell 4; refine wp_value (st_load rfl (hm.get 34 61 (by kernel_rfl)) (by go_simp)) ⟨_, rfl, rfl, Below.refl _ _⟩
    | 36, _, ho => by
        cases ho
        generalize hW : Region.wanted _ _ = W
        obtain rfl : W = (true == true) := hW.symm.trans (wanted_of rfl rfl rfl (show a.eval (.tmp 53) = .bool true from (hm.get 26 53 (by kernel_rfl))))
        clear hW
        rw [if_pos (show (true == true) = true by decide)]
        have h1 := eval_getD (hm.get 27 54 (by kernel_rfl)); have h2 := eval_getD (hm.get 29 56 (by kernel_rfl)); have h3 := eval_getD (hm.get 31 58 (by kernel_rfl)); have h4 := eval_getD (hm.get 33 60 (by kernel_rfl)); have h5 := eval_getD (hm.get 35 62 (by kernel_rfl)); unfold Oper.wp; simp only [execOp]; go_simp; refine (HF2.out w hb).mono ?_; rintro e w' ⟨rfl, hb'⟩; exact ⟨_, rfl, rfl, hb'⟩
    | 37, _, ho => by
        cases ho
        generalize hW : Region.wanted _ _ = W
        obtain rfl : W = (true == true) := hW.symm.trans (wanted_of rfl rfl rfl (show a.eval (.tmp 53) = .bool true from (hm.get 26 53 (by kernel_rfl))))
        clear hW
        rw [if_pos (show (true == true) = true by decide)]
        have h1 := eval_getD (hm.get 36 63 (by kernel_rfl)); unfold Oper.wp; simp only [execOp]; go_simp; exact ⟨_, rfl, rfl, Below.refl _ _⟩
    | 38, _, ho => by
        cases ho
        rw [if_pos (wanted_none _ rfl)]
        have h1 := eval_getD (hm.get 26 53 (by kernel_rfl)); have h3 := eval_getD (hm.get 37 64 (by kernel_rfl)); unfold Oper.wp; simp only [execOp]; go_simp; exact ⟨_, rfl, rfl, Below.refl _ _⟩
    | 39, _, ho => by
        cases ho
        rw [if_pos (wanted_none _ rfl)]
        refine wp_value (st_move rfl (hm.get 38 65 (by kernel_rfl))) ⟨_, rfl, rfl, Below.refl _ _⟩
    | 40, _, ho => by
        cases ho
        generalize hW : Region.wanted _ _ = W
        obtain rfl : W = (true == true) := hW.symm.trans (wanted_of rfl rfl rfl (show a.eval (.tmp 66) = .bool true from (hm.get 39 66 (by kernel_rfl))))
        clear hW
        rw [if_pos (show (true == true) = true by decide)]
        refine wp_value (st_move rfl ((hs.keeps (by kernel_rfl)).trans rfl)) ⟨_, rfl, rfl, Below.refl _ _⟩
    | 41, _, ho => by
        cases ho
        generalize hW : Region.wanted _ _ = W
        obtain rfl : W = (true == true) := hW.symm.trans (wanted_of rfl rfl rfl (show a.eval (.tmp 66) = .bool true from (hm.get 39 66 (by kernel_rfl))))
        clear hW
        rw [if_pos (show (true == true) = true by decide)]
        refine wp_value (st_field rfl ((hs.keeps (by kernel_rfl)).trans rfl) (by kernel_rfl)) ⟨_, rfl, rfl, Below.refl _ _⟩
    | 42, _, ho => by
        cases ho
        generalize hW : Region.wanted _ _ = W
        obtain rfl : W = (true == true) := hW.symm.trans (wanted_of rfl rfl rfl (show a.eval (.tmp 66) = .bool true from (hm.get 39 66 (by kernel_rfl))))
        clear hW
        rw [if_pos (show (true == true) = true by decide)]
        have hx : w.cell? ⟨g4, 0, none⟩ = some (S path) := (HE.out.step hb).cell 0; refine wp_value (st_load rfl (hm.get 41 68 (by kernel_rfl)) (by go_simp)) ⟨_, rfl, rfl, Below.refl _ _⟩
    | 43, _, ho => by
        cases ho
        generalize hW : Region.wanted _ _ = W
        obtain rfl : W = (true == true) := hW.symm.trans (wanted_of rfl rfl rfl (show a.eval (.tmp 66) = .bool true from (hm.get 39 66 (by kernel_rfl))))
        clear hW
        rw [if_pos (show (true == true) = true by decide)]
        refine wp_value (st_field rfl ((hs.keeps (by kernel_rfl)).trans rfl) (by kernel_rfl)) ⟨_, rfl, rfl, Below.refl _ _⟩
    | 44, _, ho => by
        cases ho
        generalize hW : Region.wanted _ _ = W
        obtain rfl : W = (true == true) := hW.symm.trans (wanted_of rfl rfl rfl (show a.eval (.tmp 66) = .bool true from (hm.get 39 66 (by kernel_rfl))))
        clear hW
        rw [if_pos (show (true == true) = true by decide)]
        have hx : w.cell? ⟨g4, 3, none⟩ = some (I sz) := (HE.out.step hb).cell 3; refine wp_value (st_load rfl (hm.get 43 70 (by kernel_rfl)) (by go_simp)) ⟨_, rfl, rfl, Below.refl _ _⟩
    | 45, _, ho => by
        cases ho
        generalize hW : Region.wanted _ _ = W
        obtain rfl : W = (true == true) := hW.symm.trans (wanted_of rfl rfl rfl (show a.eval (.tmp 66) = .bool true from (hm.get 39 66 (by kernel_rfl))))
        clear hW
        rw [if_pos (show (true == true) = true by decide)]
        refine wp_value (st_field rfl ((hs.keeps (by kernel_rfl)).trans rfl) (by kernel_rfl)) ⟨_, rfl, rfl, Below.refl _ _⟩
    | 46, _, ho => by
        cases ho
        generalize hW : Region.wanted _ _ = W
        obtain rfl : W = (true == true) := hW.symm.trans (wanted_of rfl rfl rfl (show a.eval (.tmp 66) = .bool true from (hm.get 39 66 (by kernel_rfl))))
        clear hW
        rw [if_pos (show (true == true) = true by decide)]
        have hx : w.cell? ⟨g4, 4, none⟩ = some (I sp) := (HE.out.step hb).cell 4; refine wp_value (st_load rfl (hm.get 45 72 (by kernel_rfl)) (by go_simp)) ⟨_, rfl, rfl, Below.refl _ _⟩
    | 47, _, ho => by
        cases ho
        generalize hW : Region.wanted _ _ = W
        obtain rfl : W = (true == true) := hW.symm.trans (wanted_of rfl rfl rfl (show a.eval (.tmp 66) = .bool true from (hm.get 39 66 (by kernel_rfl))))
        clear hW
        rw [if_pos (show (true == true) = true by decide)]
        refine wp_value (st_field rfl ((hs.keeps (by kernel_rfl)).trans rfl) (by kernel_rfl)) ⟨_, rfl, rfl, Below.refl _ _⟩
    | 48, _, ho => by
        cases ho
        generalize hW : Region.wanted _ _ = W
        obtain rfl : W = (true == true) := hW.symm.trans (wanted_of rfl rfl rfl (show a.eval (.tmp 66) = .bool true from (hm.get 39 66 (by kernel_rfl))))
        clear hW
        rw [if_pos (show (true == true) = true by decide)]
        have hx : w.cell? ⟨g4, 4, none⟩ = some (I sp) := (HE.out.step hb).cell 4; refine wp_value (st_load rfl (hm.get 47 74 (by kernel_rfl)) (by go_simp)) ⟨_, rfl, rfl, Below.refl _ _⟩
    | 49, _, ho => by
        cases ho
        generalize hW : Region.wanted _ _ = W
        obtain rfl : W = (true == true) := hW.symm.trans (wanted_of rfl rfl rfl (show a.eval (.tmp 66) = .bool true from (hm.get 39 66 (by kernel_rfl))))
        clear hW
        rw [if_pos (show (true == true) = true by decide)]
        have h1 := eval_getD (hm.get 48 75 (by kernel_rfl)); have hv : IntKind.i64.wrap (sp + 1) = sp + 1 := IntWalk.i64_in _ (by omega); unfold Oper.wp; simp only [execOp]; go_simp; exact ⟨_, rfl, (show Value.int _ _ = Value.int _ _ by first | rfl | rw [hv]), Below.refl _ _⟩
    | 50, _, ho => by
        cases ho
        generalize hW : Region.wanted _ _ = W
        obtain rfl : W = (true == true) := hW.symm.trans (wanted_of rfl rfl rfl (show a.eval (.tmp 66) = .bool true from (hm.get 39 66 (by kernel_rfl))))
        clear hW
        rw [if_pos (show (true == true) = true by decide)]
        have h1 := eval_getD (hm.get 40 67 (by kernel_rfl)); have h2 := eval_getD (hm.get 42 69 (by kernel_rfl)); have h3 := eval_getD (hm.get 44 71 (by kernel_rfl)); have h4 := eval_getD (hm.get 46 73 (by kernel_rfl)); have h5 := eval_getD (hm.get 49 76 (by kernel_rfl)); unfold Oper.wp; simp only [execOp]; go_simp; refine (HF3.out w hb).mono ?_; rintro e w' ⟨rfl, hb'⟩; exact ⟨_, rfl, rfl, hb'⟩
    | 51, _, ho => by
        cases ho
        rw [if_pos (wanted_none _ rfl)]
        have h1 := eval_getD (hm.get 39 66 (by kernel_rfl)); have h3 := eval_getD (hm.get 50 77 (by kernel_rfl)); unfold Oper.wp; simp only [execOp]; go_simp; exact ⟨_, rfl, rfl, Below.refl _ _⟩
    | (n + 52), hi, _ => absurd hi (by omega)
    · cases ho
      have h1 := eval_getD (hm.get 51 78 (by kernel_rfl))
      unfold Oper.wp
      simp only [execOp]
      go_simp
      have hz : a.tmps.size = 79 := hs.size.trans rfl
      have hdf : a.defers = [] := hs.defers.trans rfl
      go_wp2
      refine bodyPost_ret (v := .bool true) (by simp [results, Tryd.results4, go_sem, hz]) hdf ⟨rfl, bstep B4.out hb⟩
  · have hset := Lib.hid (set_no (l := []) (x := x) (by
      cases h : IdxLaw.right x with
      | false => exact .inl rfl
      | true => exact .inr (fun h0 => hr ⟨h, h0⟩)))
    clear hr
    go_enter Tryd.func4, Tryd.ntmps4
    go_wp2_with (first
      | (go_at_call 6; refine C0.out.mono ?_; rintro e w1 ⟨rfl, b1⟩; have B1 := Lib.hid (bstep (balloc (Below.refl _ w) _) b1); have HE1 := Lib.hid (HE0.out.step b1); have HM1 := Lib.hid (HM.out.step b1); clear b1)
      | (go_at_call 15; refine (new_any _).mono ?_; rintro e w2 ⟨p, m, rfl, hI2, hp2, hm2, b2⟩; have B2 := Lib.hid (bstep B1.out b2); have HE2 := HE1.out.step b2; have rE2 := HE2.cell; have HM2 := Lib.hid (HM1.out.step b2); have I2 := Lib.hid hI2; have Hm := Lib.hid (Nat.le_trans B1.out.size hm2); clear b2 hI2 hp2 hm2 HE2)
      | (go_at_call 10; refine (mine_any x _).mono ?_; rintro e w3 ⟨rfl, b3⟩; have B3 := Lib.hid (bstep B2.out b3); have HM3 := Lib.hid (HM2.out.step b3); have I3 := Lib.hid (I2.out.step b3); clear b3)
      | (go_at_call 9; refine (set_any w3 p m 0 [] x I3.out (by omega) awr1 hx HM3.out).mono ?_; rw [hset.out]; rintro e w4 ⟨rfl, hI4, hF4⟩; have B4 := Lib.hid (below_fr B3.out hF4 Hm.out); clear hI4 hF4))
    go_ret
    exact ⟨rfl, B4.out⟩
end Go.Proofs.YtpgobnmpgakjpaaDoor

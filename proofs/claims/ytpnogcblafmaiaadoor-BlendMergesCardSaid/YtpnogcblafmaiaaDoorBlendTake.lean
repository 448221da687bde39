/-
  (*merger).take: what a region becomes. Conditions: the merger's block, its row of lines, and what the sides have, as told.
-/
import Derived.Test.YtpnogcblafmaiaaDoorAnyOrder
import Derived.Test.YtpnogcblafmaiaaDoorConcat
import Derived.Test.YtpnogcblafmaiaaDoorBlendFirst
import Derived.Deep.RegionLaw
import Derived.Outline
namespace Go.Proofs.YtpnogcblafmaiaaDoor
open Go.RowKit

theorem own_blk {w : World} {base sz n g : Nat} {e t : TypeId} {v : Value} {xs : List Value} {cs : Array Value} (h : w.ownsRow base e sz v n xs) (hg : Blk w g t cs) (hne : e ≠ t) : some g ≠ v.ownBlock := by
  rcases h.2 with ⟨hv, _⟩ | ⟨g', cap, cur, hv, _, hh, _⟩
  · rw [hv]; simp [Value.ownBlock]
  · rw [hv]
    intro he
    have : g = g' := by simpa [Value.ownBlock] using he
    subst this
    unfold Blk at hg
    rw [hh] at hg
    injection hg with hg
    injection hg with _ ht
    exact hne ht
theorem Blk.apart {w : World} {g g' : Nat} {t t' : TypeId} {cs cs' : Array Value} (h : Blk w g t cs) (h' : Blk w g' t' cs') (hne : t ≠ t') : g ≠ g' := by
  rintro rfl
  unfold Blk at h h'
  rw [h] at h'
  injection h' with h'
  injection h' with _ ht
  exact hne ht
/-- every slot that is written is there -/
def dstOk (ops : Array Oper) (n : Nat) : Bool := ops.all (fun o => match o.dst with | some d => decide (d < n) | none => true)
theorem dst_lt {ops : Array Oper} {n : Nat} (h : dstOk ops n = true) (i : Nat) (o : Oper) (d : Nat) (ho : ops[i]? = some o) (hd : o.dst = some d) : d < n := by
  have h1 := Array.all_eq_true_iff_forall_mem.1 h o (Array.mem_of_getElem? ho)
  rw [hd] at h1
  simpa using h1
theorem own_far {w : World} {base sz n : Nat} {e : TypeId} {v : Value} {xs : List Value} (h : w.ownsRow base e sz v n xs) {p : Addr} (hp : some p.block ≠ v.ownBlock) (u : Value) : (w.setCell p u).ownsRow base e sz v n xs := by
  refine ⟨h.1, ?_⟩
  rcases h.2 with h2 | ⟨g, cap, cur, hv, hg, hh, r⟩
  · exact .inl h2
  · have hne : g ≠ p.block := fun e => hp (by rw [hv]; simp [Value.ownBlock, e])
    exact .inr ⟨g, cap, cur, hv, hg, (Below.heap_setCell w p u g hne).trans hh, r⟩
theorem own_keep {w w' : World} {base sz n : Nat} {e : TypeId} {v : Value} {xs : List Value} (h : w.ownsRow base e sz v n xs) (hb : Below w.heap.size w w') : w'.ownsRow base e sz v n xs := by
  refine h.kept (row := none) ⟨hb.os, hb.tape, hb.output, hb.size, fun k hk _ => hb.block k hk⟩ ?_
  rcases hv : v.ownBlock with _ | g
  · exact .inl rfl
  · exact .inr (by simp)
/-- a row of texts -/
def TR (w : World) (v : Value) (l : List (List UInt8)) : Prop := ∃ A c, v = .slice A l.length c ∧ Sl w 1 A l.length (strs l)
theorem tr_of {w : World} {A : Option Addr} {n c : Nat} {l : List (List UInt8)} (h : Sl w 1 A n (strs l)) : TR w (.slice A n c) l := by
  have := strs_len h
  subst this
  exact ⟨A, c, rfl, h⟩
/-- the lines of a conflict, behind those that were there -/
def conflicted (out la lb : List (List UInt8)) : List (List UInt8) := out ++ (BlendLaw.sBegin :: (BlendLaw.closed la ++ BlendLaw.sMiddle :: (BlendLaw.closed lb ++ [BlendLaw.sEnd])))
theorem rows_total {rs : List Rw} {out la lb : List (List UInt8)} (hr : ∀ r ∈ rs, r.l.length = r.n) (hl : rs.map (·.l) = [out, [BlendLaw.sBegin], BlendLaw.closed la, [BlendLaw.sMiddle], BlendLaw.closed lb, [BlendLaw.sEnd]]) :
    rowsLen rs = (conflicted out la lb).length ∧ rowsAll rs = conflicted out la lb := by
  have h1 : rowsAll rs = conflicted out la lb := by
    have : rowsAll rs = (rs.map (·.l)).flatten := by simp [rowsAll, List.flatMap]
    rw [this, hl]
    simp [conflicted]
  refine ⟨?_, h1⟩
  rw [← h1]
  clear h1 hl
  induction rs with
  | nil => rfl
  | cons r t ih =>
    have h2 := hr r (by simp)
    have h3 := ih (fun q hq => hr q (by simp [hq]))
    have e1 : rowsLen (r :: t) = r.n + rowsLen t := rfl
    have e2 : rowsAll (r :: t) = r.l ++ rowsAll t := by simp [rowsAll]
    rw [e1, e2, List.length_append]
    omega

/-- what is known of each operation's value where a conflict is laid -/
def takePhi (w0 : World) (gm gx : Nat) (Ao : Option Addr) (no co : Nat) (Aa : Option Addr) (na ca : Nat) (Ab : Option Addr) (nb cb : Nat) (out la lb : List (List UInt8)) : Nat → Value → World → Prop
  | 0, v, _ => v = ptr gm
  | 1, v, _ => v = ptr gm
  | 2, v, _ => v = ptr gm
  | 3, v, _ => v = .pointer (some ⟨gm, 3, none⟩)
  | 4, v, _ => v = .slice Ao no co
  | 5, v, w => TR w v [BlendLaw.sBegin]
  | 6, v, _ => v = .pointer (some ⟨gx, 2, none⟩)
  | 7, v, _ => v = .pointer (some ⟨gx, 2, none⟩)
  | 8, v, _ => v = .slice Aa na ca
  | 9, v, w => TR w v (BlendLaw.closed la)
  | 10, v, w => TR w v [BlendLaw.sMiddle]
  | 11, v, _ => v = .pointer (some ⟨gx, 2, none⟩)
  | 12, v, _ => v = .pointer (some ⟨gx, 3, none⟩)
  | 13, v, _ => v = .slice Ab nb cb
  | 14, v, w => TR w v (BlendLaw.closed lb)
  | 15, v, w => TR w v [BlendLaw.sEnd]
  | 16, v, w => ∃ A c, ∃ rs : List Rw, v = .slice A 6 c ∧ Sl w 1 A 6 (rs.map Rw.v) ∧ (∀ r ∈ rs, Sl w 1 r.A r.n (strs r.l)) ∧ rs.map (·.l) = [out, [BlendLaw.sBegin], BlendLaw.closed la, [BlendLaw.sMiddle], BlendLaw.closed lb, [BlendLaw.sEnd]]
  | 17, v, w => ∃ A c, v = .slice A (conflicted out la lb).length c ∧ Ow w0 w 9 1 A (conflicted out la lb).length c (strs (conflicted out la lb))
  | 18, v, _ => v = ptr gm
  | 19, v, _ => v = .pointer (some ⟨gm, 3, none⟩)
  | _, _, _ => True
theorem TR.step {w w' : World} {v : Value} {l : List (List UInt8)} (h : TR w v l) (hb : Below w.heap.size w w') : TR w' v l := by
  obtain ⟨A, c, e, hS⟩ := h
  exact ⟨A, c, e, hS.below hb⟩
theorem takePhi_mono {w0 : World} {gm gx : Nat} {Ao : Option Addr} {no co : Nat} {Aa : Option Addr} {na ca : Nat} {Ab : Option Addr} {nb cb : Nat} {out la lb : List (List UInt8)} : ∀ (j : Nat) (v : Value) (w w' : World), takePhi w0 gm gx Ao no co Aa na ca Ab nb cb out la lb j v w → Below w.heap.size w w' → takePhi w0 gm gx Ao no co Aa na ca Ab nb cb out la lb j v w' := by
  intro j v w w' h hb
  match j, h with
  | 5, h => exact TR.step h hb
  | 9, h => exact TR.step h hb
  | 10, h => exact TR.step h hb
  | 14, h => exact TR.step h hb
  | 15, h => exact TR.step h hb
  | 16, h =>
    obtain ⟨A, c, rs, h1, h2, h3, h4⟩ := h
    exact ⟨A, c, rs, h1, h2.below hb, fun r hr => (h3 r hr).below hb, h4⟩
  | 17, h =>
    obtain ⟨A, c, h1, h2⟩ := h
    exact ⟨A, c, h1, h2.keep hb⟩
  | 0, h => exact h
  | 1, h => exact h
  | 2, h => exact h
  | 3, h => exact h
  | 4, h => exact h
  | 6, h => exact h
  | 7, h => exact h
  | 8, h => exact h
  | 11, h => exact h
  | 12, h => exact h
  | 13, h => exact h
  | 18, h => exact h
  | 19, h => exact h
  | (n + 20), _ => trivial

/-- what (*merger).take leaves -/
def TakePost (w : World) (gm B : Nat) (row : Option Nat) (v0 p0 p1 : Value) (cf : Bool) (out : List (List UInt8)) (r : List (List UInt8) × Bool) (e : Ending) (w' : World) : Prop :=
  e = .returned (.tuple #[]) ∧ ∃ A c, Blk w' gm 64 #[v0, p0, p1, .slice A (out ++ r.1).length c, .bool (cf || r.2)] ∧ w'.ownsRow B 9 1 (.slice A (out ++ r.1).length c) (out ++ r.1).length (strs (out ++ r.1)) ∧ Fr (fun k => k = gm ∨ row = some k) w w'

set_option maxHeartbeats 8000000 in
set_option maxRecDepth 100000 in
theorem take_conflict (gm B : Nat) (v0 p0 p1 : Value) (Ao : Option Addr) (no co : Nat) (cf : Bool) (out : List (List UInt8)) (lo hi : Value) (Aa : Option Addr) (na ca : Nat) (la : List (List UInt8)) (Ab : Option Addr) (nb cb : Nat) (lb : List (List UInt8)) (w : World)
    (hM : Blk w gm 64 #[v0, p0, p1, .slice Ao no co, .bool cf]) (hO : w.ownsRow B 9 1 (.slice Ao no co) no (strs out)) (hB : B ≤ w.heap.size) (hSa : SlF (fun k => k = gm ∨ B ≤ k) w 1 Aa na (strs la)) (hSb : SlF (fun k => k = gm ∨ B ≤ k) w 1 Ab nb (strs lb)) (_hlo : lo.oneCell' = true) (_hhi : hi.oneCell' = true)
    (hna : na ≤ 1000000000 ∧ ∀ s ∈ la, s.length ≤ 1000000000) (hnb : nb ≤ 1000000000 ∧ ∀ s ∈ lb, s.length ≤ 1000000000) (hNb : (conflicted out la lb).length ≤ 1000000000) (hne : la ≠ lb) :
    Calls Tryd.prog 44 #[ptr gm, .agg #[lo, hi, .slice Aa na ca, .slice Ab nb cb, .bool true, .bool true]] w (TakePost w gm B (Value.slice Ao no co).ownBlock v0 p0 p1 cf out (BlendLaw.taken true true la lb)) := by
  have hx : BlendLaw.taken true true la lb = (BlendLaw.sBegin :: (BlendLaw.closed la ++ BlendLaw.sMiddle :: (BlendLaw.closed lb ++ [BlendLaw.sEnd])), true) := by
    simp [BlendLaw.taken, hne]
  rw [hx]
  have b0 := balloc (Below.refl _ w) (.cells #[lo, hi, .slice Aa na ca, .slice Ab nb cb, .bool true, .bool true] 71)
  have hX := Blk.new w 71 #[lo, hi, .slice Aa na ca, .slice Ab nb cb, .bool true, .bool true]
  have hEq := equalS_any Aa Ab na nb ca cb la lb _ (hSa.1.below b0) (hSb.1.below b0) (by omega)
  rw [decide_eq_false hne] at hEq
  have HEq := Lib.hid hEq
  have hM1 := hM.step b0
  have rM := hM1.cell
  have zM := hM.lt
  have fM := hM1.frozen
  have HO := Lib.hid hO
  have HSa := Lib.hid hSa
  have HSb := Lib.hid hSb
  have HM := Lib.hid hM
  have HX := Lib.hid hX
  clear hEq hM1 hX hSa hSb hM hO hx
  go_enter Tryd.func44, Tryd.ntmps44
  go_wp2_with fail
  refine HEq.out.mono ?_
  rintro e w1 ⟨rfl, m1, rfl⟩
  clear HEq
  go_wp2
  have hb1 := below_drewN b0 m1
  have HM1 := Lib.hid ((HM.out.step hb1).set_ 4 (.bool true))
  have HX1 := Lib.hid ((HX.out.drewN m1).far (p := ⟨gm, 4, none⟩) (Blk.apart (HX.out.drewN m1) (HM.out.step hb1) (by decide)) (.bool true))
  have f1 := ((Fr.of_below (E := fun k => k = gm ∨ (Value.slice Ao no co).ownBlock = some k) hb1).setCell (p := ⟨gm, 4, none⟩) (Or.inl rfl) (.bool true))
  have e1 := f1.weak (F := fun k => k = gm ∨ B ≤ k) (fun k hk => by
    rcases hk with rfl | hk
    · exact Or.inl rfl
    · exact Or.inr (HO.out.lt k hk).1)
  have HSa1 := Lib.hid (HSa.out.fr e1).1
  have HSb1 := Lib.hid (HSb.out.fr e1).1
  have hO1 := own_far (own_keep HO.out hb1) (p := ⟨gm, 4, none⟩) (own_blk (own_keep HO.out hb1) (HM.out.step hb1) (by decide)) (.bool true)
  have HSo1 := Lib.hid (Sl.of_own hO1)
  have hB1 : B ≤ (((w.alloc (.cells #[lo, hi, .slice Aa na ca, .slice Ab nb cb, .bool true, .bool true] 71)).drewN m1).setCell ⟨gm, 4, none⟩ (.bool true)).heap.size := Nat.le_trans hB f1.size
  have F1 := Lib.hid f1
  clear HM HX HSa HSb HO hO1 f1 e1 hb1 b0 rM zM fM
  generalize (((w.alloc (.cells #[lo, hi, .slice Aa na ca, .slice Ab nb cb, .bool true, .bool true] 71)).drewN m1).setCell ⟨gm, 4, none⟩ (.bool true)) = w0 at *
  generalize w.heap.size = gx at *
  have HM := HM1
  have HX := HX1
  have HSa := HSa1
  have HSb := HSb1
  have HSo := HSo1
  clear HM1 HX1 HSa1 HSb1 HSo1
  refine wp_region_grow (by kernel_rfl) 20 (by kernel_rfl) ?_ (takePhi w0 gm gx Ao no co Aa na ca Ab nb cb out la lb) takePhi_mono (fun i o hi ho a w hb hs hm => ?_) (fun o ho a w hb hs hm => ?_)
  · exact dst_lt (n := 71) (by kernel_rfl)
  · exact match i, hi, ho with
    | 0, _, ho => by
        cases ho
        refine wp_value (st_move rfl ((hs.keeps (by kernel_rfl)).trans rfl)) ⟨_, rfl, rfl, Below.refl _ _⟩
    | 1, _, ho => by
        cases ho
        refine wp_value (st_move rfl ((hs.keeps (by kernel_rfl)).trans rfl)) ⟨_, rfl, rfl, Below.refl _ _⟩
    | 2, _, ho => by
        cases ho
        refine wp_value (st_nil rfl (hm.get 1 8 (by kernel_rfl))) ⟨_, rfl, rfl, Below.refl _ _⟩
    | 3, _, ho => by
        cases ho
        refine wp_value (st_field rfl (hm.get 2 9 (by kernel_rfl)) (by kernel_rfl)) ⟨_, rfl, rfl, Below.refl _ _⟩
    | 4, _, ho => by
        cases ho
        have hc := (HM.out.step hb).cell 3; simp at hc; refine wp_value (st_load rfl (hm.get 3 10 (by kernel_rfl)) (by go_simp)) ⟨_, rfl, rfl, Below.refl _ _⟩
    | 5, _, ho => by
        cases ho
        refine wp_value (w' := w.alloc (.cells (strs [BlendLaw.sBegin]).toArray 9)) (v := .slice (some ⟨w.heap.size, 0, none⟩) 1 1) (st_build rfl rfl (by unfold BlendLaw.sBegin; go_simp)) ⟨_, rfl, ⟨_, _, rfl, (Blk.new w 9 (strs [BlendLaw.sBegin]).toArray).sl⟩, balloc (Below.refl _ _) _⟩
    | 6, _, ho => by
        cases ho
        refine wp_value (st_field rfl ((hs.keeps (by kernel_rfl)).trans rfl) (by kernel_rfl)) ⟨_, rfl, rfl, Below.refl _ _⟩
    | 7, _, ho => by
        cases ho
        refine wp_value (st_index rfl (hm.get 6 13 (by kernel_rfl)) rfl (by kernel_rfl)) ⟨_, rfl, rfl, Below.refl _ _⟩
    | 8, _, ho => by
        cases ho
        have hc := (HX.out.step hb).cell 2; simp at hc; refine wp_value (st_load rfl (hm.get 7 14 (by kernel_rfl)) (by go_simp)) ⟨_, rfl, rfl, Below.refl _ _⟩
    | 9, _, ho => by
        cases ho
        have h1 := eval_getD (hm.get 8 15 (by kernel_rfl)); unfold Oper.wp; simp only [execOp]; go_simp; refine (closed_any Aa na ca la w (HSa.out.below hb) hna.1 hna.2).mono ?_; rintro e w' ⟨A', c', rfl, hO⟩; exact ⟨_, rfl, tr_of hO.sl, hO.2⟩
    | 10, _, ho => by
        cases ho
        refine wp_value (w' := w.alloc (.cells (strs [BlendLaw.sMiddle]).toArray 9)) (v := .slice (some ⟨w.heap.size, 0, none⟩) 1 1) (st_build rfl rfl (by unfold BlendLaw.sMiddle; go_simp)) ⟨_, rfl, ⟨_, _, rfl, (Blk.new w 9 (strs [BlendLaw.sMiddle]).toArray).sl⟩, balloc (Below.refl _ _) _⟩
    | 11, _, ho => by
        cases ho
        refine wp_value (st_field rfl ((hs.keeps (by kernel_rfl)).trans rfl) (by kernel_rfl)) ⟨_, rfl, rfl, Below.refl _ _⟩
    | 12, _, ho => by
        cases ho
        refine wp_value (st_index rfl (hm.get 11 18 (by kernel_rfl)) rfl (by kernel_rfl)) ⟨_, rfl, rfl, Below.refl _ _⟩
    | 13, _, ho => by
        cases ho
        have hc := (HX.out.step hb).cell 3; simp at hc; refine wp_value (st_load rfl (hm.get 12 19 (by kernel_rfl)) (by go_simp)) ⟨_, rfl, rfl, Below.refl _ _⟩
    | 14, _, ho => by
        cases ho
        have h1 := eval_getD (hm.get 13 20 (by kernel_rfl)); unfold Oper.wp; simp only [execOp]; go_simp; refine (closed_any Ab nb cb lb w (HSb.out.below hb) hnb.1 hnb.2).mono ?_; rintro e w' ⟨A', c', rfl, hO⟩; exact ⟨_, rfl, tr_of hO.sl, hO.2⟩
    | 15, _, ho => by
        cases ho
        refine wp_value (w' := w.alloc (.cells (strs [BlendLaw.sEnd]).toArray 9)) (v := .slice (some ⟨w.heap.size, 0, none⟩) 1 1) (st_build rfl rfl (by unfold BlendLaw.sEnd; go_simp)) ⟨_, rfl, ⟨_, _, rfl, (Blk.new w 9 (strs [BlendLaw.sEnd]).toArray).sl⟩, balloc (Below.refl _ _) _⟩
    | 16, _, ho => by
        cases ho
        obtain ⟨A1, c1, e1, S1⟩ := hm.get 5 12 (by kernel_rfl)
        obtain ⟨A2, c2, e2, S2⟩ := hm.get 9 16 (by kernel_rfl)
        obtain ⟨A3, c3, e3, S3⟩ := hm.get 10 17 (by kernel_rfl)
        obtain ⟨A4, c4, e4, S4⟩ := hm.get 14 21 (by kernel_rfl)
        obtain ⟨A5, c5, e5, S5⟩ := hm.get 15 22 (by kernel_rfl)
        have e0 : a.eval (.tmp 11) = .slice Ao no co := hm.get 4 11 (by kernel_rfl)
        have hbb := balloc (Below.refl _ w) (.cells #[.slice Ao no co, .slice A1 1 c1, .slice A2 (BlendLaw.closed la).length c2, .slice A3 1 c3, .slice A4 (BlendLaw.closed lb).length c4, .slice A5 1 c5] 22)
        refine wp_value (w' := w.alloc (.cells #[.slice Ao no co, .slice A1 1 c1, .slice A2 (BlendLaw.closed la).length c2, .slice A3 1 c3, .slice A4 (BlendLaw.closed lb).length c4, .slice A5 1 c5] 22)) (v := .slice (some ⟨w.heap.size, 0, none⟩) 6 6) (st_build (q := #[(0, .slice Ao no co), (1, .slice A1 1 c1), (2, .slice A2 (BlendLaw.closed la).length c2), (3, .slice A3 1 c3), (4, .slice A4 (BlendLaw.closed lb).length c4), (5, .slice A5 1 c5)]) rfl (by simp only [List.map_toArray, List.map_cons, List.map_nil, e0, e1, e2, e3, e4, e5]; rfl) (by go_simp)) ⟨_, rfl, ?_, hbb⟩
        refine ⟨_, _, [⟨Ao, no, co, out⟩, ⟨A1, 1, c1, [BlendLaw.sBegin]⟩, ⟨A2, _, c2, BlendLaw.closed la⟩, ⟨A3, 1, c3, [BlendLaw.sMiddle]⟩, ⟨A4, _, c4, BlendLaw.closed lb⟩, ⟨A5, 1, c5, [BlendLaw.sEnd]⟩], rfl, (Blk.new w 22 _).sl, fun r hr => ?_, rfl⟩
        simp only [List.mem_cons, List.not_mem_nil, or_false] at hr
        rcases hr with rfl | rfl | rfl | rfl | rfl | rfl
        · exact (HSo.out.below hb).below hbb
        · exact S1.below hbb
        · exact S2.below hbb
        · exact S3.below hbb
        · exact S4.below hbb
        · exact S5.below hbb
    | 17, _, ho => by
        cases ho
        obtain ⟨A1, c1, rs, e1, S1, R1, L1⟩ := hm.get 16 23 (by kernel_rfl)
        have h1 := eval_getD e1
        have hN := rows_total (fun r hr => strs_len (R1 r hr)) L1
        unfold Oper.wp; simp only [execOp]; go_simp
        refine (concat_any A1 6 c1 rs w S1 R1 (by omega) (by rw [hN.1]; exact hNb)).mono ?_
        rintro e w' ⟨A', c', rfl, hO⟩
        rw [hN.1, hN.2] at hO
        rw [hN.1]
        exact ⟨_, rfl, ⟨A', c', rfl, hO.since hb⟩, hO.2⟩
    | 18, _, ho => by
        cases ho
        refine wp_value (st_nil rfl (hm.get 0 7 (by kernel_rfl))) ⟨_, rfl, rfl, Below.refl _ _⟩
    | 19, _, ho => by
        cases ho
        refine wp_value (st_field rfl (hm.get 18 25 (by kernel_rfl)) (by kernel_rfl)) ⟨_, rfl, rfl, Below.refl _ _⟩
    | (n + 20), hi, _ => absurd hi (by omega)
  · cases ho
    obtain ⟨A, c, e1, hO⟩ := hm.get 17 24 (by kernel_rfl)
    have e2 : a.eval (.tmp 26) = .pointer (some ⟨gm, 3, none⟩) := hm.get 19 26 (by kernel_rfl)
    have hM2 := HM.out.step hb
    have hc := hM2.cell 3
    have hf := hM2.frozen 3
    simp at hc
    refine wp_skip (st_store (w' := w.setCell ⟨gm, 3, none⟩ (.slice A (conflicted out la lb).length c)) rfl e2 e1 (by go_simp)) ?_
    refine bodyPost_end (a := a) (w := w.setCell ⟨gm, 3, none⟩ (.slice A (conflicted out la lb).length c)) (results_none (by kernel_rfl) _ _ _) hs.defers ?_
    refine ⟨rfl, A, c, ?_, ?_, ?_⟩
    · rw [Bool.or_true]
      exact hM2.set_ 3 (.slice A (conflicted out la lb).length c)
    · exact own_far (own_mono hO.1 hB1) (p := ⟨gm, 3, none⟩) (own_blk hO.1 hM2 (by decide)) _
    · exact (F1.out.trans (.of_below hb)).setCell (p := ⟨gm, 3, none⟩) (Or.inl rfl) _

set_option maxHeartbeats 4000000 in
set_option maxRecDepth 100000 in
theorem take_first (gm B : Nat) (v0 p0 p1 : Value) (Ao : Option Addr) (no co : Nat) (cf : Bool) (out : List (List UInt8)) (lo hi : Value) (Aa : Option Addr) (na ca : Nat) (la : List (List UInt8)) (vb : Value) (t0 : Bool) (w : World)
    (hM : Blk w gm 64 #[v0, p0, p1, .slice Ao no co, .bool cf]) (hO : w.ownsRow B 9 1 (.slice Ao no co) no (strs out)) (hB : B ≤ w.heap.size) (hSa : SlF (fun k => k = gm ∨ B ≤ k) w 1 Aa na (strs la)) (_hlo : lo.oneCell' = true) (_hhi : hi.oneCell' = true) (_hvb : vb.oneCell' = true) (hNb : (out ++ la).length ≤ 1000000000) :
    Calls Tryd.prog 44 #[ptr gm, .agg #[lo, hi, .slice Aa na ca, vb, .bool t0, .bool false]] w (TakePost w gm B (Value.slice Ao no co).ownBlock v0 p0 p1 cf out (la, false)) := by
  have b0 := balloc (Below.refl _ w) (.cells #[lo, hi, .slice Aa na ca, vb, .bool t0, .bool false] 71)
  have HX := Lib.hid (Blk.new w 71 #[lo, hi, .slice Aa na ca, vb, .bool t0, .bool false])
  have HM := Lib.hid (hM.step b0)
  have HO := Lib.hid (own_keep hO b0)
  have HSa := Lib.hid (hSa.1.below b0)
  have F0 := Lib.hid (Fr.of_below (E := fun k => k = gm ∨ (Value.slice Ao no co).ownBlock = some k) b0)
  have hln : (out ++ la).length = no + na := by
    have h1 := hO.1
    have h2 := strs_len hSa.1
    simp at h1
    rw [List.length_append]; omega
  obtain ⟨i0, hi0, hz0, hz1, hz2⟩ := info_parts Tryd.infoStr
  have hB1 : B ≤ (w.alloc (.cells #[lo, hi, .slice Aa na ca, vb, .bool t0, .bool false] 71)).heap.size := Nat.le_trans hB b0.size
  clear hM hO hSa b0
  have hx1 := Lib.hid (show no + na ≤ maxLen by simp only [maxLen]; omega)
  have hx2 := Lib.hid (show (no + na) * 16 ≤ 140737488355328 by omega)
  have Hln := Lib.hid hln
  clear hln hNb
  go_enter Tryd.func44, Tryd.ntmps44
  go_wp2
  have rM := HM.out.cell
  have fM := HM.out.frozen
  have zM := HM.out.lt
  have rX := HX.out.cell
  have zX := HX.out.lt
  generalize w.alloc (.cells #[lo, hi, .slice Aa na ca, vb, .bool t0, .bool false] 71) = w1 at *
  have HMd := Lib.hid HM.out.drew
  have HOd := Lib.hid (own_keep HO.out (Below.refl _ w1).drew)
  go_region_law ((refine step_append_row _ (by rfl) (.tmp 48) (.tmp 51) _ (by rfl) B 9 i0 _ 1 16 Tryd.underlying22 hi0 hz0 hz1 hz2 rfl Nat.one_pos Ao no co _ (by rfl) HOd.out hB1 Aa na ca (strs la) (by rfl) HSa.out.drew (one_strs _) hx1.out hx2.out ?_; intro A3 c3 w3 hO3 hg3 hr3; have k3 := (HMd.out.grown hg3 (own_blk HOd.out HMd.out (by decide))).cell; have f3 := (HMd.out.grown hg3 (own_blk HOd.out HMd.out (by decide))).frozen))
  all_goals
    have hM3 := HMd.out.grown hg3 (own_blk HOd.out HMd.out (by decide))
    go_wp2
    go_end0
    refine ⟨rfl, A3, c3, ?_, ?_, ?_⟩
    · rw [Bool.or_false, Hln.out]
      exact hM3.set_ 3 (.slice A3 (no + na) c3)
    · rw [Hln.out, strs, List.map_append]
      exact own_far hO3 (p := ⟨gm, 3, none⟩) (own_blk hO3 hM3 (by decide)) _
    · exact ((F0.out.drew).trans (.of_grown hg3 (fun k hk => Or.inr hk))).setCell (p := ⟨gm, 3, none⟩) (Or.inl rfl) _

set_option maxHeartbeats 4000000 in
set_option maxRecDepth 100000 in
theorem take_second (gm B : Nat) (v0 p0 p1 : Value) (Ao : Option Addr) (no co : Nat) (cf : Bool) (out : List (List UInt8)) (lo hi : Value) (Aa : Option Addr) (na ca : Nat) (la : List (List UInt8)) (vb : Value) (w : World)
    (hM : Blk w gm 64 #[v0, p0, p1, .slice Ao no co, .bool cf]) (hO : w.ownsRow B 9 1 (.slice Ao no co) no (strs out)) (hB : B ≤ w.heap.size) (hSa : SlF (fun k => k = gm ∨ B ≤ k) w 1 Aa na (strs la)) (_hlo : lo.oneCell' = true) (_hhi : hi.oneCell' = true) (_hvb : vb.oneCell' = true) (hNb : (out ++ la).length ≤ 1000000000) :
    Calls Tryd.prog 44 #[ptr gm, .agg #[lo, hi, vb, .slice Aa na ca, .bool false, .bool true]] w (TakePost w gm B (Value.slice Ao no co).ownBlock v0 p0 p1 cf out (la, false)) := by
  have b0 := balloc (Below.refl _ w) (.cells #[lo, hi, vb, .slice Aa na ca, .bool false, .bool true] 71)
  have HX := Lib.hid (Blk.new w 71 #[lo, hi, vb, .slice Aa na ca, .bool false, .bool true])
  have HM := Lib.hid (hM.step b0)
  have HO := Lib.hid (own_keep hO b0)
  have HSa := Lib.hid (hSa.1.below b0)
  have F0 := Lib.hid (Fr.of_below (E := fun k => k = gm ∨ (Value.slice Ao no co).ownBlock = some k) b0)
  have hln : (out ++ la).length = no + na := by
    have h1 := hO.1
    have h2 := strs_len hSa.1
    simp at h1
    rw [List.length_append]; omega
  obtain ⟨i0, hi0, hz0, hz1, hz2⟩ := info_parts Tryd.infoStr
  have hB1 : B ≤ (w.alloc (.cells #[lo, hi, vb, .slice Aa na ca, .bool false, .bool true] 71)).heap.size := Nat.le_trans hB b0.size
  clear hM hO hSa b0
  have hx1 := Lib.hid (show no + na ≤ maxLen by simp only [maxLen]; omega)
  have hx2 := Lib.hid (show (no + na) * 16 ≤ 140737488355328 by omega)
  have Hln := Lib.hid hln
  clear hln hNb
  go_enter Tryd.func44, Tryd.ntmps44
  go_wp2
  have rM := HM.out.cell
  have fM := HM.out.frozen
  have zM := HM.out.lt
  have rX := HX.out.cell
  have zX := HX.out.lt
  generalize w.alloc (.cells #[lo, hi, vb, .slice Aa na ca, .bool false, .bool true] 71) = w1 at *
  have HMd := Lib.hid HM.out.drew
  have HOd := Lib.hid (own_keep HO.out (Below.refl _ w1).drew)
  go_region_law ((refine step_append_row _ (by rfl) (.tmp 64) (.tmp 67) _ (by rfl) B 9 i0 _ 1 16 Tryd.underlying22 hi0 hz0 hz1 hz2 rfl Nat.one_pos Ao no co _ (by rfl) HOd.out hB1 Aa na ca (strs la) (by rfl) HSa.out.drew (one_strs _) hx1.out hx2.out ?_; intro A3 c3 w3 hO3 hg3 hr3; have k3 := (HMd.out.grown hg3 (own_blk HOd.out HMd.out (by decide))).cell; have f3 := (HMd.out.grown hg3 (own_blk HOd.out HMd.out (by decide))).frozen))
  all_goals
    have hM3 := HMd.out.grown hg3 (own_blk HOd.out HMd.out (by decide))
    go_wp2
    go_end0
    refine ⟨rfl, A3, c3, ?_, ?_, ?_⟩
    · rw [Bool.or_false, Hln.out]
      exact hM3.set_ 3 (.slice A3 (no + na) c3)
    · rw [Hln.out, strs, List.map_append]
      exact own_far hO3 (p := ⟨gm, 3, none⟩) (own_blk hO3 hM3 (by decide)) _
    · exact ((F0.out.drew).trans (.of_grown hg3 (fun k hk => Or.inr hk))).setCell (p := ⟨gm, 3, none⟩) (Or.inl rfl) _

set_option maxHeartbeats 4000000 in
set_option maxRecDepth 100000 in
theorem take_same (gm B : Nat) (v0 p0 p1 : Value) (Ao : Option Addr) (no co : Nat) (cf : Bool) (out : List (List UInt8)) (lo hi : Value) (Aa : Option Addr) (na ca : Nat) (la : List (List UInt8)) (Ab : Option Addr) (nb cb : Nat) (w : World)
    (hM : Blk w gm 64 #[v0, p0, p1, .slice Ao no co, .bool cf]) (hO : w.ownsRow B 9 1 (.slice Ao no co) no (strs out)) (hB : B ≤ w.heap.size) (hSa : SlF (fun k => k = gm ∨ B ≤ k) w 1 Aa na (strs la)) (_hlo : lo.oneCell' = true) (_hhi : hi.oneCell' = true) (hSb : SlF (fun k => k = gm ∨ B ≤ k) w 1 Ab nb (strs la)) (hNb : (out ++ la).length ≤ 1000000000) :
    Calls Tryd.prog 44 #[ptr gm, .agg #[lo, hi, .slice Aa na ca, .slice Ab nb cb, .bool true, .bool true]] w (TakePost w gm B (Value.slice Ao no co).ownBlock v0 p0 p1 cf out (la, false)) := by
  have b0 := balloc (Below.refl _ w) (.cells #[lo, hi, .slice Aa na ca, .slice Ab nb cb, .bool true, .bool true] 71)
  have HX := Lib.hid (Blk.new w 71 #[lo, hi, .slice Aa na ca, .slice Ab nb cb, .bool true, .bool true])
  have HM := Lib.hid (hM.step b0)
  have HO := Lib.hid (own_keep hO b0)
  have HSa := Lib.hid (hSa.1.below b0)
  have F0 := Lib.hid (Fr.of_below (E := fun k => k = gm ∨ (Value.slice Ao no co).ownBlock = some k) b0)
  have hln : (out ++ la).length = no + na := by
    have h1 := hO.1
    have h2 := strs_len hSa.1
    simp at h1
    rw [List.length_append]; omega
  obtain ⟨i0, hi0, hz0, hz1, hz2⟩ := info_parts Tryd.infoStr
  have hB1 : B ≤ (w.alloc (.cells #[lo, hi, .slice Aa na ca, .slice Ab nb cb, .bool true, .bool true] 71)).heap.size := Nat.le_trans hB b0.size
  have hEq := equalS_any Aa Ab na nb ca cb la la _ (hSa.1.below b0) (hSb.1.below b0) (by have h2 := strs_len hSa.1; rw [List.length_append] at hNb; omega)
  rw [decide_eq_true rfl] at hEq
  have HEq := Lib.hid hEq
  clear hM hO hSa hSb b0 hEq
  have hx1 := Lib.hid (show no + na ≤ maxLen by simp only [maxLen]; omega)
  have hx2 := Lib.hid (show (no + na) * 16 ≤ 140737488355328 by omega)
  have Hln := Lib.hid hln
  clear hln hNb
  go_enter Tryd.func44, Tryd.ntmps44
  go_wp2_with fail
  refine HEq.out.mono ?_
  rintro e w9 ⟨rfl, m9, rfl⟩
  clear HEq
  go_wp2
  have rM := HM.out.cell
  have fM := HM.out.frozen
  have zM := HM.out.lt
  have rX := HX.out.cell
  have zX := HX.out.lt
  generalize w.alloc (.cells #[lo, hi, .slice Aa na ca, .slice Ab nb cb, .bool true, .bool true] 71) = w1 at *
  have HMd := Lib.hid (HM.out.drewN (m9 + 1))
  have HOd := Lib.hid (own_keep HO.out (below_drewN (Below.refl _ w1) (m9 + 1)))
  go_region_law ((refine step_append_row _ (by rfl) (.tmp 48) (.tmp 51) _ (by rfl) B 9 i0 _ 1 16 Tryd.underlying22 hi0 hz0 hz1 hz2 rfl Nat.one_pos Ao no co _ (by rfl) HOd.out hB1 Aa na ca (strs la) (by rfl) (HSa.out.drewN (m9 + 1)) (one_strs _) hx1.out hx2.out ?_; intro A3 c3 w3 hO3 hg3 hr3; have k3 := (HMd.out.grown hg3 (own_blk HOd.out HMd.out (by decide))).cell; have f3 := (HMd.out.grown hg3 (own_blk HOd.out HMd.out (by decide))).frozen))
  all_goals
    have hM3 := HMd.out.grown hg3 (own_blk HOd.out HMd.out (by decide))
    go_wp2
    go_end0
    refine ⟨rfl, A3, c3, ?_, ?_, ?_⟩
    · rw [Bool.or_false, Hln.out]
      exact hM3.set_ 3 (.slice A3 (no + na) c3)
    · rw [Hln.out, strs, List.map_append]
      exact own_far hO3 (p := ⟨gm, 3, none⟩) (own_blk hO3 hM3 (by decide)) _
    · exact ((F0.out.drewN (m9 + 1)).trans (.of_grown hg3 (fun k hk => Or.inr hk))).setCell (p := ⟨gm, 3, none⟩) (Or.inl rfl) _
end Go.Proofs.YtpnogcblafmaiaaDoor

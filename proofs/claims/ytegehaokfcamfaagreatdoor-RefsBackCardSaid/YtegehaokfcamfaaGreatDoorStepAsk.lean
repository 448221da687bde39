/-
  dolmenlaw11.step where both books are asked (4, 7): it answers; both stay books. Conditions: as in Step.
-/
import Derived.Test.YtegehaokfcamfaaGreatDoorStep
import Derived.Test.YtegehaokfcamfaaGreatDoorKitZ
namespace Go.Proofs.YtegehaokfcamfaaGreatDoor
open Go.RowKit
open RefsLaw (Val Chg Txn rightT Book)

/-- what the long test looks at: three boxes, the answers of both, what the tests give -/
structure AskP where
  g7 : Nat
  g9 : Nat
  g5 : Nat
  vid : List UInt8
  vname : List UInt8
  wid : List UInt8
  wname : List UInt8
  x : List UInt8
  p : List UInt8
  y : List UInt8
  q : List UInt8
  ref : List UInt8
  e : Int
  f : Int
  g : Int
  h : Int
  c1 : Bool
  b2 : Bool
  c2 : Bool
  b3 : Bool
  c3 : Bool
  b4 : Bool
  c4 : Bool
  b5 : Bool
  c5 : Bool
  b6 : Bool
  c6 : Bool
def askD (s : AskP) : Prop := s.c1 = (s.vid == s.wid) ∧ s.b2 = (s.vname == s.wname) ∧ s.b3 = (s.e == s.f) ∧ s.b4 = (s.x == s.p) ∧ s.b5 = (s.y == s.q) ∧ s.b6 = (s.g == s.h)
def askC (s : AskP) : Prop := s.c2 = (s.c1 && s.b2) ∧ s.c3 = (s.c2 && s.b3) ∧ s.c4 = (s.c3 && s.b4) ∧ s.c5 = (s.c4 && s.b5) ∧ s.c6 = (s.c5 && s.b6)
theorem ask_there (g7 g9 g5 : Nat) (vid vname wid wname x p y q ref : List UInt8) (e f g h : Int) : ∃ s : AskP, askD s ∧ askC s ∧ s.g7 = g7 ∧ s.g9 = g9 ∧ s.g5 = g5 ∧ s.vid = vid ∧ s.vname = vname ∧ s.wid = wid ∧ s.wname = wname ∧ s.x = x ∧ s.p = p ∧ s.y = y ∧ s.q = q ∧ s.ref = ref ∧ s.e = e ∧ s.f = f ∧ s.g = g ∧ s.h = h :=
  ⟨⟨g7, g9, g5, vid, vname, wid, wname, x, p, y, q, ref, e, f, g, h, (vid == wid), (vname == wname), (vid == wid) && (vname == wname), (e == f), (vid == wid) && (vname == wname) && (e == f), (x == p), (vid == wid) && (vname == wname) && (e == f) && (x == p), (y == q), (vid == wid) && (vname == wname) && (e == f) && (x == p) && (y == q), (g == h), (vid == wid) && (vname == wname) && (e == f) && (x == p) && (y == q) && (g == h)⟩, ⟨rfl, rfl, rfl, rfl, rfl, rfl⟩, ⟨rfl, rfl, rfl, rfl, rfl⟩, rfl, rfl, rfl, rfl, rfl, rfl, rfl, rfl, rfl, rfl, rfl, rfl, rfl, rfl, rfl, rfl⟩
def AskB (s : AskP) (ops : Array Value) (w : World) : Prop := Blk w s.g7 43 #[S s.vid, S s.vname] ∧ Blk w s.g9 46 #[S s.wid, S s.wname] ∧ Blk w s.g5 69 ops
theorem AskB.step {s : AskP} {ops : Array Value} {w w' : World} (h : AskB s ops w) (hb : Below w.heap.size w w') : AskB s ops w' := ⟨h.1.step hb, h.2.1.step hb, h.2.2.step hb⟩
/-- every slot that is written is there -/
def askDst (ops : Array Oper) (n : Nat) : Bool := ops.all (fun o => match o.dst with | some d => decide (d < n) | none => true)
theorem ask_lt {ops : Array Oper} {n : Nat} (h : askDst ops n = true) (i : Nat) (o : Oper) (d : Nat) (ho : ops[i]? = some o) (hd : o.dst = some d) : d < n := by
  have h1 := Array.all_eq_true_iff_forall_mem.1 h o (Array.mem_of_getElem? ho)
  rw [hd] at h1
  simpa using h1
/-- what is known of each operation's value -/
def askPhi (s : AskP) : Nat → Value → World → Prop
  | 0, v, _ => v = .pointer (some ⟨s.g7, 0, none⟩)
  | 1, v, _ => v = S s.vid
  | 2, v, _ => v = .pointer (some ⟨s.g9, 0, none⟩)
  | 3, v, _ => v = S s.wid
  | 4, v, _ => v = .bool s.c1
  | 5, v, _ => v = .bool s.c1
  | 6, v, _ => (s.c1 = true → v = .pointer (some ⟨s.g7, 1, none⟩))
  | 7, v, _ => (s.c1 = true → v = S s.vname)
  | 8, v, _ => (s.c1 = true → v = .pointer (some ⟨s.g9, 1, none⟩))
  | 9, v, _ => (s.c1 = true → v = S s.wname)
  | 10, v, _ => (s.c1 = true → v = .bool s.b2)
  | 11, v, _ => v = .bool s.c2
  | 12, v, _ => v = .bool s.c2
  | 13, v, _ => (s.c2 = true → v = I s.e)
  | 14, v, _ => (s.c2 = true → v = I s.f)
  | 15, v, _ => (s.c2 = true → v = .bool s.b3)
  | 16, v, _ => v = .bool s.c3
  | 17, v, _ => v = .bool s.c3
  | 18, v, _ => (s.c3 = true → v = S s.x)
  | 19, v, _ => (s.c3 = true → v = S s.p)
  | 20, v, _ => (s.c3 = true → v = .bool s.b4)
  | 21, v, _ => v = .bool s.c4
  | 22, v, _ => v = .bool s.c4
  | 23, v, _ => (s.c4 = true → v = S s.y)
  | 24, v, _ => (s.c4 = true → v = S s.q)
  | 25, v, _ => (s.c4 = true → v = .bool s.b5)
  | 26, v, _ => v = .bool s.c5
  | 27, v, _ => v = .bool s.c5
  | 28, v, _ => (s.c5 = true → v = I s.g)
  | 29, v, _ => (s.c5 = true → v = I s.h)
  | 30, v, _ => (s.c5 = true → v = .bool s.b6)
  | 31, v, _ => v = .bool s.c6
  | 32, v, _ => v = .bool s.c6
  | 33, v, _ => (s.c6 = true → v = .pointer (some ⟨s.g5, 6, none⟩))
  | 34, v, _ => (s.c6 = true → v = S s.ref)
  | 35, v, _ => (s.c6 = true → ∃ b, v = .bool b)
  | 36, v, _ => (s.c6 = true → v = .pointer (some ⟨s.g5, 6, none⟩))
  | 37, v, _ => (s.c6 = true → v = S s.ref)
  | 38, v, _ => (s.c6 = true → ∃ b, v = .bool b)
  | 39, v, _ => (s.c6 = true → ∃ b, v = .bool b)
  | 40, v, _ => ∃ b, v = .bool b
  | _, _, _ => True
theorem askPhi_mono {s : AskP} : ∀ (j : Nat) (v : Value) (w w' : World), askPhi s j v w → Below w.heap.size w w' → askPhi s j v w' := by
  intro j v w w' h _
  match j, h with
  | 0, h => exact h
  | 1, h => exact h
  | 2, h => exact h
  | 3, h => exact h
  | 4, h => exact h
  | 5, h => exact h
  | 6, h => exact h
  | 7, h => exact h
  | 8, h => exact h
  | 9, h => exact h
  | 10, h => exact h
  | 11, h => exact h
  | 12, h => exact h
  | 13, h => exact h
  | 14, h => exact h
  | 15, h => exact h
  | 16, h => exact h
  | 17, h => exact h
  | 18, h => exact h
  | 19, h => exact h
  | 20, h => exact h
  | 21, h => exact h
  | 22, h => exact h
  | 23, h => exact h
  | 24, h => exact h
  | 25, h => exact h
  | 26, h => exact h
  | 27, h => exact h
  | 28, h => exact h
  | 29, h => exact h
  | 30, h => exact h
  | 31, h => exact h
  | 32, h => exact h
  | 33, h => exact h
  | 34, h => exact h
  | 35, h => exact h
  | 36, h => exact h
  | 37, h => exact h
  | 38, h => exact h
  | 39, h => exact h
  | 40, h => exact h
  | (n + 41), _ => trivial

set_option maxHeartbeats 4000000 in
set_option maxRecDepth 100000 in
theorem step_ask4 (B N p q z y : Nat) (w : World) (what : Int) (t : TxG) (right : Bool) (ref : List UInt8) (keep : Int) (hB : BothAt B N w p q z y) (hy : y ≤ 1000) (hO : OpOk B w t ref keep) (hM : MaxL w)
    (h4 : (bits BinOp.and IntKind.i64 what 7 == 4) = true) :
    Calls Tryz.prog 21 #[.pointer (some ⟨p, 0, none⟩), .pointer (some ⟨q, 0, none⟩), opV what t right ref keep] w (Stepped B w p q z y) := by
  obtain ⟨bk, H, G, hI⟩ := hB
  have fin := Lib.hid (show ∀ (w' : World) (b : Bool), Below w.heap.size w w' → Stepped B w p q z y (.returned (.bool b)) w' from fun w' b h =>
    ⟨AnyB.mk _, ((BothAt.step ⟨bk, H, G, hI⟩ h).mono (Nat.le_succ _) (Nat.le_succ _)).up (Nat.le_trans hI.top h.size) (Nat.le_refl _), Fr.of_below h⟩)
  have hr := hO.ref
  obtain ⟨vid, vname, ei, C1⟩ : ∃ (vid vname : List UInt8) (ei : Int), Hid (∀ W, Below w.heap.size w W → Calls Tryz.prog 13 #[.pointer (some ⟨p, 0, none⟩), S ref] W fun e w' => e = .returned (.tuple #[.agg #[S vid, S vname], I ei]) ∧ Below W.heap.size W w') := ⟨_, _, _, Lib.hid (fun W h => get_any W p H bk z ref (hI.b.step h) hr (hM.step h))⟩
  have C2 := Lib.hid (fun W (h : Below w.heap.size w W) => rget_any W q G (y * 4096) y ref (hI.r.step h) (by omega))
  obtain ⟨x3, y3, i3, C3⟩ : ∃ (x3 y3 : List UInt8) (i3 : Int), Hid (∀ W, Below w.heap.size w W → Calls Tryz.prog 19 #[.pointer (some ⟨p, 0, none⟩), S ref] W fun e w' => e = .returned (.tuple #[S x3, S y3, I i3]) ∧ Below W.heap.size W w') := ⟨_, _, _, Lib.hid (fun W h => resolve_any W p H bk z ref (hI.b.step h) hr (hM.step h))⟩
  have C4 := Lib.hid (fun W (h : Below w.heap.size w W) => rresolve_any W q G (y * 4096) y ref (hI.r.step h) (by omega))
  have HR := Lib.hid (Blk.new w 69 (opCs what t right ref keep))
  have r0 := HR.out.cell
  have HM0 := Lib.hid hM
  clear hI hO hr hM
  go_enter Tryz.func21, Tryz.ntmps21
  go_wp2_with (first
    | (go_at_call 13; refine (C1.out _ (balloc (Below.refl _ w) _)).mono ?_; rintro e w1 ⟨rfl, b1⟩; have q1 := Lib.hid (bstep (balloc (Below.refl _ w) _) b1); have HR1 := Lib.hid (HR.out.step b1); have V1 := Lib.hid (Blk.new w1 43 #[S vid, S vname]); have r1 := (HR1.out.alloc (.cells #[S vid, S vname] 43)).cell; clear b1 r0)
    | (go_at_call 44; refine (C2.out _ (balloc q1.out _)).mono ?_; rintro e w2 ⟨⟨⟨wid, wname⟩, i2, rfl⟩, b2⟩; have q2 := Lib.hid (bstep (balloc q1.out _) b2); have HR2 := Lib.hid ((HR1.out.alloc _).step b2); have V12 := Lib.hid (V1.out.step b2); have V2 := Lib.hid (Blk.new w2 46 #[S wid, S wname]); have r2 := (HR2.out.alloc (.cells #[S wid, S wname] 46)).cell; clear b2 r1)
    | (go_at_call 19; refine (C3.out _ (balloc q2.out _)).mono ?_; rintro e w3 ⟨rfl, b3⟩; have q3 := Lib.hid (bstep (balloc q2.out _) b3); have HR3 := Lib.hid ((HR2.out.alloc _).step b3); have V13 := Lib.hid ((V12.out.alloc _).step b3); have V23 := Lib.hid (V2.out.step b3); have r3 := HR3.out.cell; clear b3 r2)
    | (go_at_call 45; refine (C4.out _ q3.out).mono ?_; rintro e w4 ⟨⟨x4, y4, i4, rfl⟩, b4⟩; have q4 := Lib.hid (bstep q3.out b4); have HR4 := Lib.hid (HR3.out.step b4); have V14 := Lib.hid (V13.out.step b4); have V24 := Lib.hid (V23.out.step b4); clear b4 r3))
  obtain ⟨s, hc, hd, e1, e2, e3, e4, e5, e6, e7, e8, e9, e10, e11, e12, e13, e14, e15, e16⟩ := ask_there w1.heap.size w2.heap.size w.heap.size vid vname wid wname x3 x4 y3 y4 ref ei i2 i3 i4
  subst e4 e5 e6 e7 e8 e9 e10 e11 e12 e13 e14 e15 e16
  have HT : Hid (AskB s (opCs what t right s.ref keep) w4) := Lib.hid ⟨by rw [e1]; exact V14.out, by rw [e2]; exact V24.out, by rw [e3]; exact HR4.out⟩
  have HM := Lib.hid (HM0.out.step q4.out)
  simp only [← e1, ← e2, ← e3]
  clear e1 e2 e3 V14 V24 HR4 V13 V23 HR3 V12 V2 HR2 V1 HR1 HR q1 q2 q3 HM0 C1 C2 C3 C4
  refine wp_region_guards (by kernel_rfl) 41 (by kernel_rfl) ?_ (askPhi s) askPhi_mono (fun i o hi ho a w hb hs hm => ?_) (fun o ho a w hb hs hm => ?_)
  · exact ask_lt (n := 132) (by kernel_rfl)
  · clear fin
    exact match i, hi, ho with
    | 0, _, ho => by
        cases ho
        rw [if_pos (wanted_none _ rfl)]
        refine wp_value (st_field rfl ((hs.keeps (by kernel_rfl)).trans rfl) (by kernel_rfl)) ⟨_, rfl, rfl, Below.refl _ _⟩
    | 1, _, ho => by
        cases ho
        rw [if_pos (wanted_none _ rfl)]
        have hx : w.cell? ⟨s.g7, 0, none⟩ = some (S s.vid) := ((HT.out.step hb).1.cell 0); refine wp_value (st_load rfl ((hm.get 0 54 (by kernel_rfl))) (by go_simp)) ⟨_, rfl, rfl, Below.refl _ _⟩
    | 2, _, ho => by
        cases ho
        rw [if_pos (wanted_none _ rfl)]
        refine wp_value (st_field rfl ((hs.keeps (by kernel_rfl)).trans rfl) (by kernel_rfl)) ⟨_, rfl, rfl, Below.refl _ _⟩
    | 3, _, ho => by
        cases ho
        rw [if_pos (wanted_none _ rfl)]
        have hx : w.cell? ⟨s.g9, 0, none⟩ = some (S s.wid) := ((HT.out.step hb).2.1.cell 0); refine wp_value (st_load rfl ((hm.get 2 56 (by kernel_rfl))) (by go_simp)) ⟨_, rfl, rfl, Below.refl _ _⟩
    | 4, _, ho => by
        cases ho
        rw [if_pos (wanted_none _ rfl)]
        have h1 := eval_getD ((hm.get 1 55 (by kernel_rfl))); have h2 := eval_getD ((hm.get 3 57 (by kernel_rfl))); unfold Oper.wp; simp only [execOp]; go_simp; exact ⟨_, rfl, (show Value.bool _ = Value.bool _ by rw [hc.1]), Below.refl _ _⟩
    | 5, _, ho => by
        cases ho
        rw [if_pos (wanted_none _ rfl)]
        refine wp_value (st_move rfl ((hm.get 4 58 (by kernel_rfl)))) ⟨_, rfl, rfl, Below.refl _ _⟩
    | 6, _, ho => by
        cases ho
        generalize hW : Region.wanted _ _ = W
        obtain rfl : W = (s.c1 == true) := hW.symm.trans (wanted_of rfl rfl rfl (show a.eval (.tmp 59) = .bool s.c1 from (hm.get 5 59 (by kernel_rfl))))
        clear hW
        rcases hf : s.c1 with _ | _
        · exact fun h => Bool.noConfusion (h.symm.trans hf)
        · refine wp_value (st_field rfl ((hs.keeps (by kernel_rfl)).trans rfl) (by kernel_rfl)) ⟨_, rfl, fun _ => rfl, Below.refl _ _⟩
    | 7, _, ho => by
        cases ho
        generalize hW : Region.wanted _ _ = W
        obtain rfl : W = (s.c1 == true) := hW.symm.trans (wanted_of rfl rfl rfl (show a.eval (.tmp 59) = .bool s.c1 from (hm.get 5 59 (by kernel_rfl))))
        clear hW
        rcases hf : s.c1 with _ | _
        · exact fun h => Bool.noConfusion (h.symm.trans hf)
        · have hx : w.cell? ⟨s.g7, 1, none⟩ = some (S s.vname) := ((HT.out.step hb).1.cell 1); refine wp_value (st_load rfl ((hm.get 6 60 (by kernel_rfl)) hf) (by go_simp)) ⟨_, rfl, fun _ => rfl, Below.refl _ _⟩
    | 8, _, ho => by
        cases ho
        generalize hW : Region.wanted _ _ = W
        obtain rfl : W = (s.c1 == true) := hW.symm.trans (wanted_of rfl rfl rfl (show a.eval (.tmp 59) = .bool s.c1 from (hm.get 5 59 (by kernel_rfl))))
        clear hW
        rcases hf : s.c1 with _ | _
        · exact fun h => Bool.noConfusion (h.symm.trans hf)
        · refine wp_value (st_field rfl ((hs.keeps (by kernel_rfl)).trans rfl) (by kernel_rfl)) ⟨_, rfl, fun _ => rfl, Below.refl _ _⟩
    | 9, _, ho => by
        cases ho
        generalize hW : Region.wanted _ _ = W
        obtain rfl : W = (s.c1 == true) := hW.symm.trans (wanted_of rfl rfl rfl (show a.eval (.tmp 59) = .bool s.c1 from (hm.get 5 59 (by kernel_rfl))))
        clear hW
        rcases hf : s.c1 with _ | _
        · exact fun h => Bool.noConfusion (h.symm.trans hf)
        · have hx : w.cell? ⟨s.g9, 1, none⟩ = some (S s.wname) := ((HT.out.step hb).2.1.cell 1); refine wp_value (st_load rfl ((hm.get 8 62 (by kernel_rfl)) hf) (by go_simp)) ⟨_, rfl, fun _ => rfl, Below.refl _ _⟩
    | 10, _, ho => by
        cases ho
        generalize hW : Region.wanted _ _ = W
        obtain rfl : W = (s.c1 == true) := hW.symm.trans (wanted_of rfl rfl rfl (show a.eval (.tmp 59) = .bool s.c1 from (hm.get 5 59 (by kernel_rfl))))
        clear hW
        rcases hf : s.c1 with _ | _
        · exact fun h => Bool.noConfusion (h.symm.trans hf)
        · have h1 := eval_getD ((hm.get 7 61 (by kernel_rfl)) hf); have h2 := eval_getD ((hm.get 9 63 (by kernel_rfl)) hf); unfold Oper.wp; simp only [execOp]; go_simp; exact ⟨_, rfl, fun _ => (show Value.bool _ = Value.bool _ by rw [hc.2.1]), Below.refl _ _⟩
    | 11, _, ho => by
        cases ho
        rw [if_pos (wanted_none _ rfl)]
        have h1 := eval_getD (hm.get 5 59 (by kernel_rfl))
        have h2 := (hm.get 10 64 (by kernel_rfl))
        rcases hf : s.c1 with _ | _
        · rw [hf] at h1
          unfold Oper.wp; simp only [execOp]; go_simp
          exact ⟨_, rfl, show Value.bool _ = Value.bool _ by rw [hd.1, hf]; rfl, Below.refl _ _⟩
        · rw [hf] at h1
          have h3 := eval_getD (h2 hf)
          unfold Oper.wp; simp only [execOp]; go_simp
          exact ⟨_, rfl, show Value.bool _ = Value.bool _ by rw [hd.1, hf]; rfl, Below.refl _ _⟩
    | 12, _, ho => by
        cases ho
        rw [if_pos (wanted_none _ rfl)]
        refine wp_value (st_move rfl ((hm.get 11 65 (by kernel_rfl)))) ⟨_, rfl, rfl, Below.refl _ _⟩
    | 13, _, ho => by
        cases ho
        generalize hW : Region.wanted _ _ = W
        obtain rfl : W = (s.c2 == true) := hW.symm.trans (wanted_of rfl rfl rfl (show a.eval (.tmp 66) = .bool s.c2 from (hm.get 12 66 (by kernel_rfl))))
        clear hW
        rcases hf : s.c2 with _ | _
        · exact fun h => Bool.noConfusion (h.symm.trans hf)
        · refine wp_value (st_move rfl ((hs.keeps (by kernel_rfl)).trans rfl)) ⟨_, rfl, fun _ => rfl, Below.refl _ _⟩
    | 14, _, ho => by
        cases ho
        generalize hW : Region.wanted _ _ = W
        obtain rfl : W = (s.c2 == true) := hW.symm.trans (wanted_of rfl rfl rfl (show a.eval (.tmp 66) = .bool s.c2 from (hm.get 12 66 (by kernel_rfl))))
        clear hW
        rcases hf : s.c2 with _ | _
        · exact fun h => Bool.noConfusion (h.symm.trans hf)
        · refine wp_value (st_move rfl ((hs.keeps (by kernel_rfl)).trans rfl)) ⟨_, rfl, fun _ => rfl, Below.refl _ _⟩
    | 15, _, ho => by
        cases ho
        generalize hW : Region.wanted _ _ = W
        obtain rfl : W = (s.c2 == true) := hW.symm.trans (wanted_of rfl rfl rfl (show a.eval (.tmp 66) = .bool s.c2 from (hm.get 12 66 (by kernel_rfl))))
        clear hW
        rcases hf : s.c2 with _ | _
        · exact fun h => Bool.noConfusion (h.symm.trans hf)
        · have h1 := eval_getD ((hm.get 13 67 (by kernel_rfl)) hf); have h2 := eval_getD ((hm.get 14 68 (by kernel_rfl)) hf); unfold Oper.wp; simp only [execOp]; go_simp; exact ⟨_, rfl, fun _ => (show Value.bool _ = Value.bool _ by rw [hc.2.2.1]), Below.refl _ _⟩
    | 16, _, ho => by
        cases ho
        rw [if_pos (wanted_none _ rfl)]
        have h1 := eval_getD (hm.get 12 66 (by kernel_rfl))
        have h2 := (hm.get 15 69 (by kernel_rfl))
        rcases hf : s.c2 with _ | _
        · rw [hf] at h1
          unfold Oper.wp; simp only [execOp]; go_simp
          exact ⟨_, rfl, show Value.bool _ = Value.bool _ by rw [hd.2.1, hf]; rfl, Below.refl _ _⟩
        · rw [hf] at h1
          have h3 := eval_getD (h2 hf)
          unfold Oper.wp; simp only [execOp]; go_simp
          exact ⟨_, rfl, show Value.bool _ = Value.bool _ by rw [hd.2.1, hf]; rfl, Below.refl _ _⟩
    | 17, _, ho => by
        cases ho
        rw [if_pos (wanted_none _ rfl)]
        refine wp_value (st_move rfl ((hm.get 16 70 (by kernel_rfl)))) ⟨_, rfl, rfl, Below.refl _ _⟩
    | 18, _, ho => by
        cases ho
        generalize hW : Region.wanted _ _ = W
        obtain rfl : W = (s.c3 == true) := hW.symm.trans (wanted_of rfl rfl rfl (show a.eval (.tmp 71) = .bool s.c3 from (hm.get 17 71 (by kernel_rfl))))
        clear hW
        rcases hf : s.c3 with _ | _
        · exact fun h => Bool.noConfusion (h.symm.trans hf)
        · refine wp_value (st_move rfl ((hs.keeps (by kernel_rfl)).trans rfl)) ⟨_, rfl, fun _ => rfl, Below.refl _ _⟩
    | 19, _, ho => by
        cases ho
        generalize hW : Region.wanted _ _ = W
        obtain rfl : W = (s.c3 == true) := hW.symm.trans (wanted_of rfl rfl rfl (show a.eval (.tmp 71) = .bool s.c3 from (hm.get 17 71 (by kernel_rfl))))
        clear hW
        rcases hf : s.c3 with _ | _
        · exact fun h => Bool.noConfusion (h.symm.trans hf)
        · refine wp_value (st_move rfl ((hs.keeps (by kernel_rfl)).trans rfl)) ⟨_, rfl, fun _ => rfl, Below.refl _ _⟩
    | 20, _, ho => by
        cases ho
        generalize hW : Region.wanted _ _ = W
        obtain rfl : W = (s.c3 == true) := hW.symm.trans (wanted_of rfl rfl rfl (show a.eval (.tmp 71) = .bool s.c3 from (hm.get 17 71 (by kernel_rfl))))
        clear hW
        rcases hf : s.c3 with _ | _
        · exact fun h => Bool.noConfusion (h.symm.trans hf)
        · have h1 := eval_getD ((hm.get 18 72 (by kernel_rfl)) hf); have h2 := eval_getD ((hm.get 19 73 (by kernel_rfl)) hf); unfold Oper.wp; simp only [execOp]; go_simp; exact ⟨_, rfl, fun _ => (show Value.bool _ = Value.bool _ by rw [hc.2.2.2.1]), Below.refl _ _⟩
    | 21, _, ho => by
        cases ho
        rw [if_pos (wanted_none _ rfl)]
        have h1 := eval_getD (hm.get 17 71 (by kernel_rfl))
        have h2 := (hm.get 20 74 (by kernel_rfl))
        rcases hf : s.c3 with _ | _
        · rw [hf] at h1
          unfold Oper.wp; simp only [execOp]; go_simp
          exact ⟨_, rfl, show Value.bool _ = Value.bool _ by rw [hd.2.2.1, hf]; rfl, Below.refl _ _⟩
        · rw [hf] at h1
          have h3 := eval_getD (h2 hf)
          unfold Oper.wp; simp only [execOp]; go_simp
          exact ⟨_, rfl, show Value.bool _ = Value.bool _ by rw [hd.2.2.1, hf]; rfl, Below.refl _ _⟩
    | 22, _, ho => by
        cases ho
        rw [if_pos (wanted_none _ rfl)]
        refine wp_value (st_move rfl ((hm.get 21 75 (by kernel_rfl)))) ⟨_, rfl, rfl, Below.refl _ _⟩
    | 23, _, ho => by
        cases ho
        generalize hW : Region.wanted _ _ = W
        obtain rfl : W = (s.c4 == true) := hW.symm.trans (wanted_of rfl rfl rfl (show a.eval (.tmp 76) = .bool s.c4 from (hm.get 22 76 (by kernel_rfl))))
        clear hW
        rcases hf : s.c4 with _ | _
        · exact fun h => Bool.noConfusion (h.symm.trans hf)
        · refine wp_value (st_move rfl ((hs.keeps (by kernel_rfl)).trans rfl)) ⟨_, rfl, fun _ => rfl, Below.refl _ _⟩
    | 24, _, ho => by
        cases ho
        generalize hW : Region.wanted _ _ = W
        obtain rfl : W = (s.c4 == true) := hW.symm.trans (wanted_of rfl rfl rfl (show a.eval (.tmp 76) = .bool s.c4 from (hm.get 22 76 (by kernel_rfl))))
        clear hW
        rcases hf : s.c4 with _ | _
        · exact fun h => Bool.noConfusion (h.symm.trans hf)
        · refine wp_value (st_move rfl ((hs.keeps (by kernel_rfl)).trans rfl)) ⟨_, rfl, fun _ => rfl, Below.refl _ _⟩
    | 25, _, ho => by
        cases ho
        generalize hW : Region.wanted _ _ = W
        obtain rfl : W = (s.c4 == true) := hW.symm.trans (wanted_of rfl rfl rfl (show a.eval (.tmp 76) = .bool s.c4 from (hm.get 22 76 (by kernel_rfl))))
        clear hW
        rcases hf : s.c4 with _ | _
        · exact fun h => Bool.noConfusion (h.symm.trans hf)
        · have h1 := eval_getD ((hm.get 23 77 (by kernel_rfl)) hf); have h2 := eval_getD ((hm.get 24 78 (by kernel_rfl)) hf); unfold Oper.wp; simp only [execOp]; go_simp; exact ⟨_, rfl, fun _ => (show Value.bool _ = Value.bool _ by rw [hc.2.2.2.2.1]), Below.refl _ _⟩
    | 26, _, ho => by
        cases ho
        rw [if_pos (wanted_none _ rfl)]
        have h1 := eval_getD (hm.get 22 76 (by kernel_rfl))
        have h2 := (hm.get 25 79 (by kernel_rfl))
        rcases hf : s.c4 with _ | _
        · rw [hf] at h1
          unfold Oper.wp; simp only [execOp]; go_simp
          exact ⟨_, rfl, show Value.bool _ = Value.bool _ by rw [hd.2.2.2.1, hf]; rfl, Below.refl _ _⟩
        · rw [hf] at h1
          have h3 := eval_getD (h2 hf)
          unfold Oper.wp; simp only [execOp]; go_simp
          exact ⟨_, rfl, show Value.bool _ = Value.bool _ by rw [hd.2.2.2.1, hf]; rfl, Below.refl _ _⟩
    | 27, _, ho => by
        cases ho
        rw [if_pos (wanted_none _ rfl)]
        refine wp_value (st_move rfl ((hm.get 26 80 (by kernel_rfl)))) ⟨_, rfl, rfl, Below.refl _ _⟩
    | 28, _, ho => by
        cases ho
        generalize hW : Region.wanted _ _ = W
        obtain rfl : W = (s.c5 == true) := hW.symm.trans (wanted_of rfl rfl rfl (show a.eval (.tmp 81) = .bool s.c5 from (hm.get 27 81 (by kernel_rfl))))
        clear hW
        rcases hf : s.c5 with _ | _
        · exact fun h => Bool.noConfusion (h.symm.trans hf)
        · refine wp_value (st_move rfl ((hs.keeps (by kernel_rfl)).trans rfl)) ⟨_, rfl, fun _ => rfl, Below.refl _ _⟩
    | 29, _, ho => by
        cases ho
        generalize hW : Region.wanted _ _ = W
        obtain rfl : W = (s.c5 == true) := hW.symm.trans (wanted_of rfl rfl rfl (show a.eval (.tmp 81) = .bool s.c5 from (hm.get 27 81 (by kernel_rfl))))
        clear hW
        rcases hf : s.c5 with _ | _
        · exact fun h => Bool.noConfusion (h.symm.trans hf)
        · refine wp_value (st_move rfl ((hs.keeps (by kernel_rfl)).trans rfl)) ⟨_, rfl, fun _ => rfl, Below.refl _ _⟩
    | 30, _, ho => by
        cases ho
        generalize hW : Region.wanted _ _ = W
        obtain rfl : W = (s.c5 == true) := hW.symm.trans (wanted_of rfl rfl rfl (show a.eval (.tmp 81) = .bool s.c5 from (hm.get 27 81 (by kernel_rfl))))
        clear hW
        rcases hf : s.c5 with _ | _
        · exact fun h => Bool.noConfusion (h.symm.trans hf)
        · have h1 := eval_getD ((hm.get 28 82 (by kernel_rfl)) hf); have h2 := eval_getD ((hm.get 29 83 (by kernel_rfl)) hf); unfold Oper.wp; simp only [execOp]; go_simp; exact ⟨_, rfl, fun _ => (show Value.bool _ = Value.bool _ by rw [hc.2.2.2.2.2]), Below.refl _ _⟩
    | 31, _, ho => by
        cases ho
        rw [if_pos (wanted_none _ rfl)]
        have h1 := eval_getD (hm.get 27 81 (by kernel_rfl))
        have h2 := (hm.get 30 84 (by kernel_rfl))
        rcases hf : s.c5 with _ | _
        · rw [hf] at h1
          unfold Oper.wp; simp only [execOp]; go_simp
          exact ⟨_, rfl, show Value.bool _ = Value.bool _ by rw [hd.2.2.2.2, hf]; rfl, Below.refl _ _⟩
        · rw [hf] at h1
          have h3 := eval_getD (h2 hf)
          unfold Oper.wp; simp only [execOp]; go_simp
          exact ⟨_, rfl, show Value.bool _ = Value.bool _ by rw [hd.2.2.2.2, hf]; rfl, Below.refl _ _⟩
    | 32, _, ho => by
        cases ho
        rw [if_pos (wanted_none _ rfl)]
        refine wp_value (st_move rfl ((hm.get 31 85 (by kernel_rfl)))) ⟨_, rfl, rfl, Below.refl _ _⟩
    | 33, _, ho => by
        cases ho
        generalize hW : Region.wanted _ _ = W
        obtain rfl : W = (s.c6 == true) := hW.symm.trans (wanted_of rfl rfl rfl (show a.eval (.tmp 86) = .bool s.c6 from (hm.get 32 86 (by kernel_rfl))))
        clear hW
        rcases hf : s.c6 with _ | _
        · exact fun h => Bool.noConfusion (h.symm.trans hf)
        · refine wp_value (st_field rfl ((hs.keeps (by kernel_rfl)).trans rfl) (by kernel_rfl)) ⟨_, rfl, fun _ => rfl, Below.refl _ _⟩
    | 34, _, ho => by
        cases ho
        generalize hW : Region.wanted _ _ = W
        obtain rfl : W = (s.c6 == true) := hW.symm.trans (wanted_of rfl rfl rfl (show a.eval (.tmp 86) = .bool s.c6 from (hm.get 32 86 (by kernel_rfl))))
        clear hW
        rcases hf : s.c6 with _ | _
        · exact fun h => Bool.noConfusion (h.symm.trans hf)
        · have hx : w.cell? ⟨s.g5, 6, none⟩ = some (S s.ref) := ((HT.out.step hb).2.2.cell 6); refine wp_value (st_load rfl ((hm.get 33 87 (by kernel_rfl)) hf) (by go_simp)) ⟨_, rfl, fun _ => rfl, Below.refl _ _⟩
    | 35, _, ho => by
        cases ho
        generalize hW : Region.wanted _ _ = W
        obtain rfl : W = (s.c6 == true) := hW.symm.trans (wanted_of rfl rfl rfl (show a.eval (.tmp 86) = .bool s.c6 from (hm.get 32 86 (by kernel_rfl))))
        clear hW
        rcases hf : s.c6 with _ | _
        · exact fun h => Bool.noConfusion (h.symm.trans hf)
        · have h1 := eval_getD ((hm.get 34 88 (by kernel_rfl)) hf); unfold Oper.wp; simp only [execOp]; go_simp; refine (named_any s.ref _ (HM.out.step hb)).mono ?_; rintro e w' ⟨rfl, hb'⟩; exact ⟨_, rfl, fun _ => ⟨_, rfl⟩, hb'⟩
    | 36, _, ho => by
        cases ho
        generalize hW : Region.wanted _ _ = W
        obtain rfl : W = (s.c6 == true) := hW.symm.trans (wanted_of rfl rfl rfl (show a.eval (.tmp 86) = .bool s.c6 from (hm.get 32 86 (by kernel_rfl))))
        clear hW
        rcases hf : s.c6 with _ | _
        · exact fun h => Bool.noConfusion (h.symm.trans hf)
        · refine wp_value (st_field rfl ((hs.keeps (by kernel_rfl)).trans rfl) (by kernel_rfl)) ⟨_, rfl, fun _ => rfl, Below.refl _ _⟩
    | 37, _, ho => by
        cases ho
        generalize hW : Region.wanted _ _ = W
        obtain rfl : W = (s.c6 == true) := hW.symm.trans (wanted_of rfl rfl rfl (show a.eval (.tmp 86) = .bool s.c6 from (hm.get 32 86 (by kernel_rfl))))
        clear hW
        rcases hf : s.c6 with _ | _
        · exact fun h => Bool.noConfusion (h.symm.trans hf)
        · have hx : w.cell? ⟨s.g5, 6, none⟩ = some (S s.ref) := ((HT.out.step hb).2.2.cell 6); refine wp_value (st_load rfl ((hm.get 36 90 (by kernel_rfl)) hf) (by go_simp)) ⟨_, rfl, fun _ => rfl, Below.refl _ _⟩
    | 38, _, ho => by
        cases ho
        generalize hW : Region.wanted _ _ = W
        obtain rfl : W = (s.c6 == true) := hW.symm.trans (wanted_of rfl rfl rfl (show a.eval (.tmp 86) = .bool s.c6 from (hm.get 32 86 (by kernel_rfl))))
        clear hW
        rcases hf : s.c6 with _ | _
        · exact fun h => Bool.noConfusion (h.symm.trans hf)
        · have h1 := eval_getD ((hm.get 37 91 (by kernel_rfl)) hf); unfold Oper.wp; simp only [execOp]; go_simp; refine (rnamed_any s.ref _).mono ?_; rintro e w' ⟨⟨bb, rfl⟩, rfl⟩; exact ⟨_, rfl, fun _ => ⟨_, rfl⟩, Below.refl _ _⟩
    | 39, _, ho => by
        cases ho
        generalize hW : Region.wanted _ _ = W
        obtain rfl : W = (s.c6 == true) := hW.symm.trans (wanted_of rfl rfl rfl (show a.eval (.tmp 86) = .bool s.c6 from (hm.get 32 86 (by kernel_rfl))))
        clear hW
        rcases hf : s.c6 with _ | _
        · exact fun h => Bool.noConfusion (h.symm.trans hf)
        · obtain ⟨b1, e1⟩ := (hm.get 35 89 (by kernel_rfl)) hf; obtain ⟨b2, e2⟩ := (hm.get 38 92 (by kernel_rfl)) hf; have h1 := eval_getD e1; have h2 := eval_getD e2; unfold Oper.wp; simp only [execOp]; go_simp; exact ⟨_, rfl, fun _ => ⟨_, rfl⟩, Below.refl _ _⟩
    | 40, _, ho => by
        cases ho
        rw [if_pos (wanted_none _ rfl)]
        have h1 := eval_getD (hm.get 32 86 (by kernel_rfl))
        have h2 := (hm.get 39 93 (by kernel_rfl))
        rcases hf : s.c6 with _ | _
        · rw [hf] at h1
          unfold Oper.wp; simp only [execOp]; go_simp
          exact ⟨_, rfl, ⟨_, rfl⟩, Below.refl _ _⟩
        · rw [hf] at h1
          obtain ⟨b1, e1⟩ := h2 hf
          have h3 := eval_getD e1
          unfold Oper.wp; simp only [execOp]; go_simp
          exact ⟨_, rfl, ⟨_, rfl⟩, Below.refl _ _⟩
    | (n + 41), hi, _ => absurd hi (by omega)
  · cases ho
    obtain ⟨bb, eb⟩ := hm.get 40 94 (by kernel_rfl)
    have h1 := eval_getD eb
    unfold Oper.wp
    simp only [execOp]
    go_simp
    have hz : a.tmps.size = 132 := hs.size.trans rfl
    have hdf : a.defers = [] := hs.defers.trans rfl
    go_wp2
    refine bodyPost_ret (v := .bool bb) (by simp [results, Tryz.results21, go_sem, hz]) hdf (fin.out w bb (bstep q4.out hb))
end Go.Proofs.YtegehaokfcamfaaGreatDoor

/-
  dolmenlaw17: few, awake; blend.Merge of few bytes. Conditions: slices read as lists; internal/bytealg.MaxLen holds an int.
-/
import Derived.Test.YtpnogcblafmaiaaDoorBlendMerge
import Derived.Test.YtpnogcblafmaiaaDoorBlendLaw4
import Derived.Test.YtpnogcblafmaiaaDoorLineSplits
namespace Go.Proofs.YtpnogcblafmaiaaDoor
open Go.RowKit
open LineLaw (Hk)

theorem diffC {x l : List (List UInt8)} (h : x.length * l.length ≤ 1048576) (hx : x.length ≤ 1000000) (hl : l.length ≤ 1000000) : DiffC x l := by
  intro A A' n n' c c' w hA hA' hc hc'
  have e1 := strs_len hA
  have e2 := strs_len hA'
  exact diff_any A A' n n' c c' x l w hA hA' hc hc' (by rw [← e1, ← e2]; exact h) (by omega) (by omega)
/-- blend.Merge of few bytes -/
theorem merge_few (Ab : Option Addr) (nb cb : Nat) (b : List UInt8) (Ao : Option Addr) (no co : Nat) (o : List UInt8) (At : Option Addr) (nt ct : Nat) (t : List UInt8) (w : World) (hAb : Sl w 1 Ab nb (u8s b)) (hAo : Sl w 1 Ao no (u8s o)) (hAt : Sl w 1 At nt (u8s t))
    (hnb : nb ≤ 1000) (hno : no ≤ 1000) (hnt : nt ≤ 1000) (hM : MaxL w) :
    Calls Tryd.prog 29 #[.slice Ab nb cb, .slice Ao no co, .slice At nt ct] w (MergePost w (BlendLaw.merge b o t)) := by
  have l0 : b.length = nb := by simpa using hAb.len
  have l1 : o.length = no := by simpa using hAo.len
  have l2 : t.length = nt := by simpa using hAt.len
  have h0 := LinesLaw.lns_len b
  have h1 := LinesLaw.lns_len o
  have h2 := LinesLaw.lns_len t
  have m1 := Nat.mul_le_mul (show (LinesLaw.lns b).length ≤ 1000 by omega) (show (LinesLaw.lns o).length ≤ 1000 by omega)
  have m2 := Nat.mul_le_mul (show (LinesLaw.lns b).length ≤ 1000 by omega) (show (LinesLaw.lns t).length ≤ 1000 by omega)
  exact merge_any Ab nb cb b Ao no co o At nt ct t w hAb hAo hAt (by omega) (by omega) (by omega) hM (diffC (by omega) (by omega) (by omega)) (diffC (by omega) (by omega) (by omega))

theorem few_yes (A0 A1 A2 : Option Addr) (n0 n1 n2 c0 c1 c2 : Nat) (w : World) (h0 : n0 ≤ 600) (h1 : n1 ≤ 600) (h2 : n2 ≤ 600) :
    Calls Tryd.prog 28 #[.slice A0 n0 c0, .slice A1 n1 c1, .slice A2 n2 c2] w fun e w' => e = .returned (.bool true) ∧ Below w.heap.size w w' := by
  have d0 : decide ((n0 : Int) ≤ 600) = true := by simp; omega
  have d1 : decide ((n1 : Int) ≤ 600) = true := by simp; omega
  have d2 : decide ((n2 : Int) ≤ 600) = true := by simp; omega
  go_enter Tryd.func28, Tryd.ntmps28
  go_wp2
  go_ret
  exact ⟨rfl, Below.refl _ _⟩
theorem few_no (A0 A1 A2 : Option Addr) (n0 n1 n2 c0 c1 c2 : Nat) (w : World) (h : 600 < n0 ∨ 600 < n1 ∨ 600 < n2) :
    Calls Tryd.prog 28 #[.slice A0 n0 c0, .slice A1 n1 c1, .slice A2 n2 c2] w fun e w' => e = .returned (.bool false) ∧ Below w.heap.size w w' := by
  by_cases h0 : 600 < n0
  · have d0 : decide ((n0 : Int) ≤ 600) = false := by simp; omega
    go_enter Tryd.func28, Tryd.ntmps28
    go_wp2
    go_ret
    exact ⟨rfl, Below.refl _ _⟩
  · have d0 : decide ((n0 : Int) ≤ 600) = true := by simp; omega
    by_cases h1 : 600 < n1
    · have d1 : decide ((n1 : Int) ≤ 600) = false := by simp; omega
      go_enter Tryd.func28, Tryd.ntmps28
      go_wp2
      go_ret
      exact ⟨rfl, Below.refl _ _⟩
    · have d1 : decide ((n1 : Int) ≤ 600) = true := by simp; omega
      have d2 : decide ((n2 : Int) ≤ 600) = false := by simp; omega
      go_enter Tryd.func28, Tryd.ntmps28
      go_wp2
      go_ret
      exact ⟨rfl, Below.refl _ _⟩

theorem aw1 : BlendLaw.merge [49,10,50,10,51,10] [49,10,120,10,51,10] [49,10,50,10,51,10,52,10] = ([49,10,120,10,51,10,52,10], false) := by decide +kernel
theorem aw2 : BlendLaw.merge [97,10] [98,10] [99] = ([60,60,60,60,60,60,60,10,98,10,61,61,61,61,61,61,61,10,99,10,62,62,62,62,62,62,62,10], true) := by decide +kernel
/-- bytes that stand in the text -/
theorem const_sl (w : World) (l : List UInt8) (m : Nat × Nat) : Sl (w.alloc (.cells (u8s l).toArray 5 m)) 1 (some ⟨w.heap.size, 0, none⟩) l.length (u8s l) :=
  ⟨by simp, fun _ => ⟨_, _, rfl, by simp, fun k _ => by rw [World.cell?_alloc_mark]; simp⟩⟩
theorem const_sl2 (w : World) (l : List UInt8) (m : Nat × Nat) (o : Obj) : Sl ((w.alloc o).alloc (.cells (u8s l).toArray 5 m)) 1 (some ⟨w.heap.size + 1, 0, none⟩) l.length (u8s l) := by
  have h := const_sl (w.alloc o) l m
  rwa [World.size_alloc] at h
theorem const_sl3 (w : World) (l : List UInt8) (m : Nat × Nat) (o o' : Obj) : Sl (((w.alloc o).alloc o').alloc (.cells (u8s l).toArray 5 m)) 1 (some ⟨w.heap.size + 2, 0, none⟩) l.length (u8s l) := by
  have h := const_sl2 (w.alloc o) l m o'
  rwa [World.size_alloc] at h

set_option maxHeartbeats 2000000 in
set_option maxRecDepth 100000 in
theorem awake17_any (w : World) (hM : MaxL w) :
    Calls Tryd.prog 27 #[] w fun e w' => e = .returned (.bool true) ∧ Below w.heap.size w w' := by
  have kc := fun (w : World) (C : Array Value) (n c : Nat) => Lib.run_convert_bytes_const (P := Tryd.prog) w 34 5 C n c Tryd.underlying34 Tryd.underlying5
  have kc2 := fun (w : World) (o : Obj) (C : Array Value) (n c : Nat) => show (convert 34 34 (.slice (some ⟨w.heap.size + 1, 0, none⟩) n c)).run Tryd.prog ((w.alloc o).alloc (.cells C 5)) = .ok (.slice (some ⟨w.heap.size + 1, 0, none⟩) n c) ((w.alloc o).alloc (.cells C 5 (C.size, C.size + 1))) by
    have h := Lib.run_convert_bytes_const (P := Tryd.prog) (w.alloc o) 34 5 C n c Tryd.underlying34 Tryd.underlying5
    rwa [World.size_alloc] at h
  have kc3 := fun (w : World) (o o' : Obj) (C : Array Value) (n c : Nat) => show (convert 34 34 (.slice (some ⟨w.heap.size + 2, 0, none⟩) n c)).run Tryd.prog (((w.alloc o).alloc o').alloc (.cells C 5)) = .ok (.slice (some ⟨w.heap.size + 2, 0, none⟩) n c) (((w.alloc o).alloc o').alloc (.cells C 5 (C.size, C.size + 1))) by
    have h := Lib.run_convert_bytes_const (P := Tryd.prog) ((w.alloc o).alloc o') 34 5 C n c Tryd.underlying34 Tryd.underlying5
    rwa [World.size_alloc, World.size_alloc] at h
  go_enter Tryd.func27, Tryd.ntmps27
  go_wp2_with fail
  have b1a := balloc (balloc (balloc (Below.refl _ w) (.cells (u8s [49, 10, 50, 10, 51, 10]).toArray 5 (6, 7))) (.cells (u8s [49, 10, 120, 10, 51, 10]).toArray 5 (6, 7))) (.cells (u8s [49, 10, 50, 10, 51, 10, 52, 10]).toArray 5 (8, 9))
  have s1a : Sl (((w.alloc (.cells (u8s [49, 10, 50, 10, 51, 10]).toArray 5 (6, 7))).alloc (.cells (u8s [49, 10, 120, 10, 51, 10]).toArray 5 (6, 7))).alloc (.cells (u8s [49, 10, 50, 10, 51, 10, 52, 10]).toArray 5 (8, 9))) 1 (some ⟨w.heap.size, 0, none⟩) 6 (u8s [49, 10, 50, 10, 51, 10]) := ((const_sl w [49, 10, 50, 10, 51, 10] (6, 7)).alloc _).alloc _
  have s1b : Sl (((w.alloc (.cells (u8s [49, 10, 50, 10, 51, 10]).toArray 5 (6, 7))).alloc (.cells (u8s [49, 10, 120, 10, 51, 10]).toArray 5 (6, 7))).alloc (.cells (u8s [49, 10, 50, 10, 51, 10, 52, 10]).toArray 5 (8, 9))) 1 (some ⟨w.heap.size + 1, 0, none⟩) 6 (u8s [49, 10, 120, 10, 51, 10]) := (const_sl2 w [49, 10, 120, 10, 51, 10] (6, 7) _).alloc _
  have s1c : Sl (((w.alloc (.cells (u8s [49, 10, 50, 10, 51, 10]).toArray 5 (6, 7))).alloc (.cells (u8s [49, 10, 120, 10, 51, 10]).toArray 5 (6, 7))).alloc (.cells (u8s [49, 10, 50, 10, 51, 10, 52, 10]).toArray 5 (8, 9))) 1 (some ⟨w.heap.size + 2, 0, none⟩) 8 (u8s [49, 10, 50, 10, 51, 10, 52, 10]) := const_sl3 w [49, 10, 50, 10, 51, 10, 52, 10] (8, 9) _ _
  refine (merge_few (some ⟨w.heap.size, 0, none⟩) 6 6 [49, 10, 50, 10, 51, 10] (some ⟨w.heap.size + 1, 0, none⟩) 6 6 [49, 10, 120, 10, 51, 10] (some ⟨w.heap.size + 2, 0, none⟩) 8 8 [49, 10, 50, 10, 51, 10, 52, 10] _ s1a s1b s1c (by omega) (by omega) (by omega) (hM.step b1a)).mono ?_
  rintro e1 w1 ⟨A1, c1, rfl, hc1, hS1, b1⟩
  rw [aw1] at hS1 hc1
  rw [aw1]
  have B1 := Lib.hid (bstep b1a b1)
  have HS1 := Lib.hid (show Sl w1 1 A1 8 (u8s [49, 10, 120, 10, 51, 10, 52, 10]) from hS1)
  have hM1 := hM.step (bstep b1a b1)
  clear b1a s1a s1b s1c b1 hS1 hM
  go_wp2_with fail
  have b2a := balloc (balloc (balloc (Below.refl _ w1) (.cells (u8s [97, 10]).toArray 5 (2, 3))) (.cells (u8s [98, 10]).toArray 5 (2, 3))) (.cells (u8s [99]).toArray 5 (1, 2))
  have s2a : Sl (((w1.alloc (.cells (u8s [97, 10]).toArray 5 (2, 3))).alloc (.cells (u8s [98, 10]).toArray 5 (2, 3))).alloc (.cells (u8s [99]).toArray 5 (1, 2))) 1 (some ⟨w1.heap.size, 0, none⟩) 2 (u8s [97, 10]) := ((const_sl w1 [97, 10] (2, 3)).alloc _).alloc _
  have s2b : Sl (((w1.alloc (.cells (u8s [97, 10]).toArray 5 (2, 3))).alloc (.cells (u8s [98, 10]).toArray 5 (2, 3))).alloc (.cells (u8s [99]).toArray 5 (1, 2))) 1 (some ⟨w1.heap.size + 1, 0, none⟩) 2 (u8s [98, 10]) := (const_sl2 w1 [98, 10] (2, 3) _).alloc _
  have s2c : Sl (((w1.alloc (.cells (u8s [97, 10]).toArray 5 (2, 3))).alloc (.cells (u8s [98, 10]).toArray 5 (2, 3))).alloc (.cells (u8s [99]).toArray 5 (1, 2))) 1 (some ⟨w1.heap.size + 2, 0, none⟩) 1 (u8s [99]) := const_sl3 w1 [99] (1, 2) _ _
  refine (merge_few (some ⟨w1.heap.size, 0, none⟩) 2 2 [97, 10] (some ⟨w1.heap.size + 1, 0, none⟩) 2 2 [98, 10] (some ⟨w1.heap.size + 2, 0, none⟩) 1 1 [99] _ s2a s2b s2c (by omega) (by omega) (by omega) (hM1.step b2a)).mono ?_
  rintro e2 w2 ⟨A2, c2, rfl, hc2, hS2, b2⟩
  rw [aw2] at hS2 hc2
  rw [aw2]
  have B2 := Lib.hid (bstep B1.out (bstep b2a b2))
  have conv1 := conv_any (c := c1) (HS1.out.below (bstep b2a b2)) w2 (Below.refl _ _)
  have conv2 := conv_any (c := c2) (show Sl w2 1 A2 28 (u8s [60,60,60,60,60,60,60,10,98,10,61,61,61,61,61,61,61,10,99,10,62,62,62,62,62,62,62,10]) from hS2) w2 (Below.refl _ _)
  clear b2a s2a s2b s2c b2 hS2 hM1 kc kc2 kc3
  go_wp2
  go_ret
  exact ⟨rfl, B2.out⟩
end Go.Proofs.YtpnogcblafmaiaaDoor

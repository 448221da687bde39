/-
  dolmenlaw15.awake returns true. Condition: internal/bytealg.MaxLen holds an int.
-/
import Derived.Test.YtpnogcblafmaiaaDoorLineSim
import Derived.Test.YtpnogcblafmaiaaDoorLineSplit
import Derived.Lib.SlBytesConst
namespace Go.Proofs.YtpnogcblafmaiaaDoor
open Go.RowKit
open LineLaw (Hk)

theorem awDiff : LineLaw.diff [[97], [98], [99], [(100 : UInt8)]] [[97], [120], [99]] = [⟨1, 2, 1, 2⟩, ⟨3, 4, 3, 3⟩] := by
  simp [LineLaw.diff, LineLaw.pre, LineLaw.suf, LineLaw.walk, LineLaw.L, LineLaw.ext]
theorem awSim : LineLaw.similar [[97], [98], [99], [(100 : UInt8)]] [[97], [120], [99]] = 57 := by
  simp [LineLaw.similar, LineLaw.L]
theorem awSim0 : LineLaw.similar ([] : List (List UInt8)) [] = 100 := by simp [LineLaw.similar]
theorem awSplit : LinesLaw.lns [120, 10, 10, 121] = [[120, 10], [10], [121]] := by decide

set_option maxHeartbeats 2000000 in
set_option maxRecDepth 100000 in
theorem awake15_any (w : World) (hM : MaxL w) :
    Calls Tryd.prog 14 #[] w fun e w' => e = .returned (.bool true) ∧ Below w.heap.size w w' := by
  have kc := fun (w : World) (C : Array Value) (n c : Nat) => Lib.run_convert_bytes_const (P := Tryd.prog) w 34 5 C n c Tryd.underlying34 Tryd.underlying5
  go_enter Tryd.func14, Tryd.ntmps14
  go_wp2_with fail
  have a1 := (Blk.new w 9 (strs [[97], [98], [99], [100]]).toArray).alloc (.cells (strs [[97], [120], [99]]).toArray 9)
  have a2 := Blk.new (w.alloc (.cells (strs [[97], [98], [99], [100]]).toArray 9)) 9 (strs [[97], [120], [99]]).toArray
  rw [World.size_alloc] at a2
  have s1 := Lib.hid a1.sl
  have s2 := Lib.hid a2.sl
  have b0 := Lib.hid (balloc (balloc (Below.refl _ w) (.cells (strs [[97], [98], [99], [100]]).toArray 9)) (.cells (strs [[97], [120], [99]]).toArray 9))
  clear a1 a2
  refine (diff_any (some ⟨w.heap.size, 0, none⟩) (some ⟨w.heap.size + 1, 0, none⟩) 4 3 4 3 _ _ _ s1.out s2.out (by omega) (by omega) (by omega) (by omega) (by omega)).mono ?_
  rintro e1 w1 ⟨A1, m1, c1, rfl, hO⟩
  rw [awDiff] at hO
  obtain rfl : m1 = 2 := by have := hO.len; simp [hks, hkc] at this; omega
  obtain ⟨g, rfl, _, hg⟩ := hO.form (by omega)
  have r0 := hO.1.cellAt
  have b1 := Lib.hid (bstep b0.out hO.2)
  have t1 := Lib.hid (s1.out.below hO.2)
  have t2 := Lib.hid (s2.out.below hO.2)
  have HO := Lib.hid hO
  clear hO s1 s2 b0
  have q0 := r0 0 (by omega); have q1 := r0 1 (by omega); have q2 := r0 2 (by omega); have q3 := r0 3 (by omega)
  have q4 := r0 4 (by omega); have q5 := r0 5 (by omega); have q6 := r0 6 (by omega); have q7 := r0 7 (by omega)
  simp [hks, hkc] at q0 q1 q2 q3 q4 q5 q6 q7
  clear r0
  go_wp2_with fail
  have a3 : Sl (w1.alloc (.cells (u8s [120, 10, 10, 121]).toArray 5 (4, 5))) 1 (some ⟨w1.heap.size, 0, none⟩) 4 (u8s [120, 10, 10, 121]) :=
    ⟨by simp, fun _ => ⟨_, _, rfl, by simp, fun k _ => by rw [World.cell?_alloc_mark]; simp⟩⟩
  have b2 := Lib.hid (balloc b1.out (.cells (u8s [120, 10, 10, 121]).toArray 5 (4, 5)))
  refine (split_any (some ⟨w1.heap.size, 0, none⟩) 4 4 [120, 10, 10, 121] _ a3 (by omega) (hM.step b2.out)).mono ?_
  rintro e2 w2 ⟨A2, m2, c2, rfl, hmc, hmn, hS, hB⟩
  rw [awSplit] at hS
  obtain rfl : m2 = 3 := by have := hS.len; simpa using this.symm
  obtain ⟨x, off, rfl, hx, hcell⟩ := hS.2 (by omega)
  have p1 := hcell 1 (by omega)
  have p2 := hcell 2 (by omega)
  simp at p1 p2
  have bb := bstep (balloc (Below.refl _ w1) (.cells (u8s [120, 10, 10, 121]).toArray 5 (4, 5))) hB
  have u0 := (bb.cell (p := ⟨g, 0, none⟩) hg).trans q0
  have u1 := (bb.cell (p := ⟨g, 1, none⟩) hg).trans q1
  have u2 := (bb.cell (p := ⟨g, 2, none⟩) hg).trans q2
  have u3 := (bb.cell (p := ⟨g, 3, none⟩) hg).trans q3
  have u4 := (bb.cell (p := ⟨g, 4, none⟩) hg).trans q4
  have u5 := (bb.cell (p := ⟨g, 5, none⟩) hg).trans q5
  have u6 := (bb.cell (p := ⟨g, 6, none⟩) hg).trans q6
  have u7 := (bb.cell (p := ⟨g, 7, none⟩) hg).trans q7
  have b3 := Lib.hid (bstep b2.out hB)
  have t11 := Lib.hid (t1.out.below bb)
  have t21 := Lib.hid (t2.out.below bb)
  clear q0 q1 q2 q3 q4 q5 q6 q7 hB b2 b1 t1 t2 a3 bb hS hcell
  go_wp2_with fail
  refine (similar_any (some ⟨w.heap.size, 0, none⟩) (some ⟨w.heap.size + 1, 0, none⟩) 4 3 4 3 _ _ _ t11.out t21.out (by omega) (by omega) (by omega) (by omega) (by omega)).mono ?_
  rintro e3 w3 ⟨rfl, hb3⟩
  rw [awSim]
  have p11 := (hb3.cell (p := ⟨x, off + 1, none⟩) hx).trans p1
  have p21 := (hb3.cell (p := ⟨x, off + 2, none⟩) hx).trans p2
  have hx3 : x < w3.heap.size := Nat.lt_of_lt_of_le hx hb3.size
  have b4 := Lib.hid (bstep b3.out hb3)
  clear p1 p2 b3 hb3
  go_wp2_with fail
  refine (similar_any none none 0 0 0 0 [] [] _ Sl.nil_ Sl.nil_ (by omega) (by omega) (by omega) (by omega) (by omega)).mono ?_
  rintro e4 w4 ⟨rfl, hb4⟩
  rw [awSim0]
  have p12 := (hb4.cell (p := ⟨x, off + 1, none⟩) hx3).trans p11
  have p22 := (hb4.cell (p := ⟨x, off + 2, none⟩) hx3).trans p21
  have b5 := Lib.hid (bstep b4.out hb4)
  clear p11 p21 b4 hb4
  go_wp2
  go_ret
  exact ⟨rfl, b5.out⟩
end Go.Proofs.YtpnogcblafmaiaaDoor

/-
  dolmenlaw14.IndexDecodes: both Decodes are alike at any bytes. Conditions: no more than 1500000 bytes; MaxLen holds an int.
-/
import Derived.Test.YtjcelelgebohkaaGreatDoorRiDec
import Derived.Test.YtjcelelgebohkaaGreatDoorIdxAlike
import Derived.Test.YtjcelelgebohkaaGreatDoorAwake14
import Derived.Test.YtjcelelgebohkaaGreatDoorKit
import Derived.Test.YtjcelelgebohkaaGreatDoorRows
namespace Go.Proofs.YtjcelelgebohkaaGreatDoor
open Go.ChangeShapes Go.WideShapes Go.RowKit
open IdxLaw (Ent Key zE Inv sortE)

section
variable {H : Type}
theorem bulk_one (d : DataW H) : 1 ≤ Rows.uptoBulk d := by
  cases d with
  | lit l => cases l <;> simp [Rows.uptoBulk]
  | nil => simp [Rows.uptoBulk]
  | ptr d => simp [Rows.uptoBulk]
  | slice elems spare => simp [Rows.uptoBulk]
  | agg parts => simp [Rows.uptoBulk]
  | iface t d => simp [Rows.uptoBulk]
  | map entries => simp [Rows.uptoBulk]
  | held h => simp [Rows.uptoBulk]
theorem bulk_length (l : List (DataW H)) : l.length ≤ Rows.uptoBulkAll l := by
  induction l with
  | nil => simp [Rows.uptoBulkAll]
  | cons x r ih => have := bulk_one x; simp only [Rows.uptoBulkAll, List.length_cons]; omega
theorem bulk_slice (elems spare : List (DataW H)) : elems.length + spare.length ≤ Rows.uptoBulk (.slice elems spare) := by
  have h1 := bulk_length elems
  have h2 := bulk_length spare
  simp only [Rows.uptoBulk]
  omega
end
/-- bytes that came in, of a bounded bulk -/
theorem open_bytesB {H : Type} {enc : TypeId × Value → H} {w : World} {base : Nat} {held : Bool} {fuel : Nat} {v : Value} {x : DataW H × List MemPlace} (h : DataW.trod enc Tryz.prog w base (fun _ => true) held fuel 51 [v] = some x) (hw : Rows.uptoBulk x.1 ≤ 1048576) :
    ∃ (A : Option Addr) (n c : Nat) (l : List UInt8), v = .slice A n c ∧ Sl w 1 A n (u8s l) ∧ n ≤ c ∧ n ≤ 1500000 := by
  obtain ⟨A, n, c, l, rfl, hnc, _, hS, hx⟩ := bytes_sl Tryz.underlying51 Tryz.underlying5 (by kernel_rfl) h
  refine ⟨A, n, c, l, rfl, hS, hnc, ?_⟩
  rcases hx with ⟨_, h0⟩ | ⟨es, sp, hx, hl⟩
  · omega
  · rw [hx] at hw
    have := bulk_slice es sp
    omega
set_option maxHeartbeats 4000000 in
set_option maxRecDepth 100000 in
theorem indexDecodes_law (A : Option Addr) (n c : Nat) (b : List UInt8) (w : World) (hA : Sl w 1 A n (u8s b)) (hc : n ≤ c) (hn : n ≤ 1500000) (hM : MaxL w) :
    Calls Tryz.prog 4 #[.slice A n c] w fun e w' => e = .returned (.bool true) ∧ Below w.heap.size w w' := by
  have hl := u8s_len hA
  have HA := Lib.hid hA
  have HM := Lib.hid hM
  have C0 := Lib.hid (awake14_any _ HM.out)
  have htop : b.length < top62 := by unfold top62; omega
  clear hA hM
  go_enter Tryz.func4, Tryz.ntmps4
  go_wp2_with fail
  refine C0.out.mono ?_
  rintro e w0 ⟨rfl, b0⟩
  have B0 := Lib.hid b0
  have C1 := Lib.hid (decode_any A n c b w0 (HA.out.below b0) hc hn (HM.out.step b0))
  clear b0
  go_wp2_with fail
  refine C1.out.mono ?_
  rintro e w1 (⟨hd, rfl, b1⟩ | ⟨p, m, n1, l, hd, rfl, hI, hn1, hp, hm, b1⟩)
  · have hr := dec_none htop hd
    have B1 := Lib.hid (bstep B0.out b1)
    have C2 := Lib.hid (rdecode_any A n c b w1 (HA.out.below B1.out) hc hn)
    clear b1
    go_wp2_with fail
    refine C2.out.mono ?_
    rintro e w2 (⟨_, rfl, b2⟩ | ⟨q, r, Aq, cq, hd2, _⟩)
    · have B2 := Lib.hid (bstep B1.out b2)
      clear b2
      go_wp2
      go_ret
      exact ⟨rfl, B2.out⟩
    · rw [hr] at hd2; cases hd2
  · obtain ⟨hr, hInv⟩ := dec_some htop hd
    have B1 := Lib.hid (bstep B0.out b1)
    have HI := Lib.hid hI
    have HV := Lib.hid hInv
    have C2 := Lib.hid (rdecode_any A n c b w1 (HA.out.below B1.out) hc hn)
    clear b1 hI hInv
    go_wp2_with fail
    refine C2.out.mono ?_
    rintro e w2 (⟨hd2, _⟩ | ⟨q, r, Aq, cq, hd2, rfl, hB, hO, hq⟩)
    · rw [hr] at hd2; cases hd2
    · obtain rfl : sortE l = r := Option.some.inj (hr.symm.trans hd2)
      have hI2 := HI.out.step hO.2
      have hml := HI.out.map.lt
      have hpl := HI.out.blk.lt
      have T2 : Two w2 p m q l (sortE l) n1 := by
        refine ⟨hI2, ⟨.inr rfl, fun k hk => ?_, Aq, cq, hB, hO.cap.1, hO.sl, fun bq off h0 e hk => ?_⟩, by omega, by omega⟩
        · have := hO.2.size
          rcases hk with rfl | rfl
          · omega
          · exact hB.lt
        · rcases hk with h | h
          · have h1 := hI2.map.is.ne_own hO.1
            rw [e] at h1
            exact h1 (by rw [← h]; rfl)
          · have h1 := row_ne hO hB (by decide)
            rw [e] at h1
            exact h1 (by rw [← h]; rfl)
      have HT := Lib.hid T2
      have B2 := Lib.hid (bstep B1.out hO.2)
      have C3 := Lib.hid (alike_any w2 p m q n1 l HT.out (by omega) HV.out)
      clear T2 hB hO hI2 hd2 hr hd
      go_wp2_with fail
      refine C3.out.mono ?_
      rintro e w3 ⟨rfl, b3⟩
      have B3 := Lib.hid (bstep B2.out b3)
      clear b3
      go_wp2
      go_ret
      exact ⟨rfl, B3.out⟩
end Go.Proofs.YtjcelelgebohkaaGreatDoor

/-
  work.Name, worked, right. Conditions: the path is no longer than 2147483648 bytes; the disk lies in memory; MaxLen holds an int.
-/
import Derived.Test.YtphnfcgdpdimbaaGreatDoorKitD
import Derived.Test.YtphnfcgdpdimbaaGreatDoorKitX
import Derived.Test.YtphnfcgdpdimbaaGreatDoorShelf
namespace Go.Proofs.YtphnfcgdpdimbaaGreatDoor
open Go.RowKit
open PathLaw (named)

/-- a working file's name on the disk -/
def wname (p : List UInt8) : List UInt8 := [119, 47] ++ p
/-- may a path be worked? -/
def workedB (p : List UInt8) : Bool := named p && !Lib.hasSuffix p [126]
theorem ba_app (a b : List UInt8) : (⟨a.toArray⟩ : ByteArray) ++ ⟨b.toArray⟩ = ⟨(a ++ b).toArray⟩ := by
  apply ByteArray.ext
  rw [ByteArray.data_append]
  simp
set_option maxRecDepth 100000 in
theorem wname_any (p : List UInt8) (w : World) (hp : p.length ≤ 2147483648) :
    Calls Tryz.prog 29 #[S p] w fun e w' => e = .returned (S (wname p)) ∧ w' = w := by
  go_enter Tryz.func29, Tryz.ntmps29
  go_wp2
  go_ret
  exact ⟨by rw [show (⟨#[119, 47]⟩ : ByteArray) ++ ⟨p.toArray⟩ = ⟨(wname p).toArray⟩ from ba_app [119, 47] p]; rfl, rfl⟩
set_option maxRecDepth 100000 in
theorem worked_any (p : List UInt8) (w : World) (hp : p.length ≤ 2147483648) (hM : MaxL w) :
    Calls Tryz.prog 77 #[S p] w fun e w' => e = .returned (.bool (workedB p)) ∧ Below w.heap.size w w' := by
  have C1 := named_any p w hp hM
  have C2 := Lib.hid (fun W => Tryz.strings_HasSuffix ⟨p.toArray⟩ ⟨#[126]⟩ W (by rw [size_mk]; omega))
  rcases hn : named p with _ | _
  all_goals
    rw [hn] at C1
    have C1' := Lib.hid C1
    have Hn := Lib.hid hn
    clear C1 hn
    go_enter Tryz.func77, Tryz.ntmps77
    go_wp2_with (first
      | (go_at_call 105; refine C1'.out.mono ?_; rintro e w1 ⟨rfl, b1⟩; have B1 := Lib.hid b1; clear b1)
      | (go_at_call 94; refine (C2.out _).mono ?_; rintro e w2 ⟨rfl, rfl⟩))
    go_ret
    exact ⟨ret_bool (by unfold workedB; rw [Hn.out]; simp), B1.out⟩
/-- Read at a name that may be -/
theorem dread_ok (w : World) (p m n : Nat) (cap : Int) (L : List DF) (s : List UInt8) (h : DiskAt w p m n cap L) (hs : okName s = true) :
    Calls Tryz.prog 66 #[.pointer (some ⟨p, 0, none⟩), S s] w fun e w' => ∃ A k c z, e = .returned (.tuple #[.slice A k c, I z]) ∧ (z = 0 ∨ z = 3) ∧ Below w.heap.size w w' := by
  rcases hg : getF L s with _ | x
  · refine (dread_none w p m n cap L s h hs hg).mono ?_
    rintro e w' ⟨rfl, hb⟩
    exact ⟨none, 0, 0, 3, rfl, .inr rfl, hb⟩
  · refine (dread_some w p m n cap L s x h hg).mono ?_
    rintro e w' ⟨A, k, c, rfl, hO⟩
    exact ⟨A, k, c, 0, rfl, .inl rfl, hO.2⟩
set_option maxRecDepth 100000 in
theorem wright_any (w : World) (p m n : Nat) (cap : Int) (L : List DF) (s : List UInt8) (h : DiskAt w p m n cap L) (hs : s.length ≤ 2147483648) (hM : MaxL w) :
    Calls Tryz.prog 36 #[.pointer (some ⟨p, 0, none⟩), S s] w fun e w' => e = .returned (.bool (workedB s)) ∧ Below w.heap.size w w' := by
  have C1 := Lib.hid (dread_ok w p m n cap L [119, 47] h (by decide))
  have HM := Lib.hid hM
  clear h hM
  go_enter Tryz.func36, Tryz.ntmps36
  go_wp2_with fail
  refine C1.out.mono ?_
  rintro e w1 ⟨A, k, c, z, rfl, hz, b1⟩
  have B1 := Lib.hid b1
  have C2 := Lib.hid (worked_any s w1 hs (HM.out.step b1))
  clear b1
  rcases hz with rfl | rfl
  all_goals
    go_wp2_with fail
    refine C2.out.mono ?_
    rintro e w2 ⟨rfl, b2⟩
    have B2 := Lib.hid (bstep B1.out b2)
    clear b2
    go_wp2
    go_ret
    exact ⟨ret_bool (by simp), B2.out⟩
end Go.Proofs.YtphnfcgdpdimbaaGreatDoor

/-
  dolmenlaw11.awake: the document's example holds. Condition: the library's variable MaxLen is there.
-/
import Derived.Test.YtegehaokfcamfaaGreatDoorRefsLog
import Derived.Test.YtegehaokfcamfaaGreatDoorRefsResolve
namespace Go.Proofs.YtegehaokfcamfaaGreatDoor
open Go.RowKit
open RefsLaw (Val Chg Txn rightT Book)

def sHead : List UInt8 := [104, 101, 97, 100]
def sMain : List UInt8 := [104, 101, 97, 100, 115, 47, 109, 97, 105, 110]
def awT : Txn := ⟨[], [], 0, [⟨sHead, ⟨[], []⟩, ⟨[], sMain⟩⟩]⟩
def awB0 : Book := ⟨RefsLaw.none_, []⟩
def awB1 : Book := (RefsLaw.apply awB0 awT).2
theorem aw_right : rightT awT = true := by decide +kernel
theorem aw_apply : (RefsLaw.apply awB0 awT).1 = 0 := by decide +kernel
theorem aw_get : RefsLaw.get awB1 sHead = (⟨[], sMain⟩, 0) := by decide +kernel
theorem aw_resolve : RefsLaw.resolve awB1 sHead = (sMain, [], 9) := by decide +kernel
theorem aw_again : (RefsLaw.apply awB1 awT).1 = 8 := by decide +kernel
theorem aw_count : (RefsLaw.apply awB1 awT).2.txns.length = 1 := by decide +kernel
theorem aw_log : (RefsLaw.log (RefsLaw.apply awB1 awT).2 sHead).length = 1 := by decide +kernel

def awX (A : Option Addr) : TxG := ⟨[], [], 0, A, 1, 1, awT.chs⟩
abbrev awC : Array Value := #[S sHead, S [], S [], S [], S sMain]
theorem aw_sl (w : World) : SlT (fun k => k = w.heap.size) 58 (w.alloc (.cells awC 58)) 5 (some ⟨w.heap.size, 0, none⟩) 1 (chs awT.chs) := by
  have hb := Blk.new w 58 awC
  refine ⟨⟨rfl, fun _ => ⟨_, _, rfl, hb.lt, fun k hk => ?_⟩⟩, fun _ => ⟨_, _, _, _, rfl, rfl, hb⟩⟩
  rw [Nat.zero_add]
  rw [show chs awT.chs = [S sHead, S [], S [], S [], S sMain] from rfl]
  exact (hb.cell k).trans (by simp)
theorem aw_short : ∀ c ∈ awT.chs, c.ref.length ≤ maxLen := by
  intro c hc
  simp [awT] at hc
  subst hc
  decide

set_option maxHeartbeats 4000000 in
set_option maxRecDepth 100000 in
theorem awake11_any (w : World) (hM : MaxL w) : Calls Tryz.prog 5 #[] w fun e w' => e = .returned (.bool true) ∧ Below w.heap.size w w' := by
  have HM := Lib.hid hM
  have hMl := hM.lt
  go_enter Tryz.func5, Tryz.ntmps5
  go_wp2_with (go_at_call 18; refine (new_any w).mono ?_; rintro e w1 ⟨p, rfl, hB1, b1⟩)
  have z1 := b1.size
  obtain ⟨W1, hW1⟩ : ∃ W1, W1 = (w1.alloc (.cells awC 58)).alloc (.cells #[S [], S [], I 0, .slice (some ⟨w1.heap.size, 0, none⟩) 1 1] 37) := ⟨_, rfl⟩
  have q1 : Below w1.heap.size w1 W1 := hW1 ▸ balloc (balloc (Below.refl _ w1) _) _
  have zW : W1.heap.size = w1.heap.size + 2 := by rw [hW1]; simp
  have hT1 : Blk W1 (w1.heap.size + 1) 37 #[S [], S [], I 0, .slice (some ⟨w1.heap.size, 0, none⟩) 1 1] := by
    have := Blk.new (w1.alloc (.cells awC 58)) 37 #[S [], S [], I 0, .slice (some ⟨w1.heap.size, 0, none⟩) 1 1]
    rw [← hW1] at this
    simpa using this
  have hS1 : SlT (fun k => k = w1.heap.size) 58 W1 5 (some ⟨w1.heap.size, 0, none⟩) 1 (chs awT.chs) := hW1 ▸ (aw_sl w1).step (balloc (Below.refl _ _) _)
  have HB1 := Lib.hid (hB1.step q1)
  have f1 : Hid (Fr (fun k => w.heap.size ≤ k) w W1) := Lib.hid (Fr.of_below (bstep b1 q1))
  have C1 := apply_ok W1 p _ awB0 0 (awX (some ⟨w1.heap.size, 0, none⟩)) _ HB1.out (by omega) hS1 (show 1 ≤ 1759218604390 by omega) aw_short (HM.out.fr f1.out (by omega)) (fun h => by have := h.1; omega) aw_right
  rw [hW1] at C1
  refine C1.mono ?_
  rw [← hW1]
  clear C1
  rintro e w2 ⟨rfl, hB2, hF2⟩
  rw [show (RefsLaw.apply awB0 (awX (some ⟨w1.heap.size, 0, none⟩)).txn) = RefsLaw.apply awB0 awT from rfl] at *
  rw [aw_apply]
  obtain ⟨H1, hH1⟩ : ∃ H1 : Nat → Prop, H1 = ext (fun k => w.heap.size ≤ k ∧ k < w1.heap.size) W1 w2 := ⟨_, rfl⟩
  have HH : Hid (∀ k, H1 k → w.heap.size ≤ k ∧ k ≠ w1.heap.size ∧ k ≠ w1.heap.size + 1) := Lib.hid (fun k hk => by
    rw [hH1] at hk
    rcases hk with h | h
    · omega
    · omega)
  rw [← hH1] at hB2
  have HB2 : Hid (BookAt w2 p H1 awB1 1) := Lib.hid hB2
  have f2 := Lib.hid (f1.out.trans (hF2.weak (fun _ h => h.1)))
  have hS2 := Lib.hid (hS1.fr hF2 (fun k hk h => by omega))
  have hT2 := Lib.hid (hF2.blk hT1 (by omega))
  clear hW1 q1 hT1 hS1 HB1 f1 hB2 hF2 hB1 hH1
  have C3 := Lib.hid (get_any w2 p H1 awB1 1 sHead HB2.out (by decide) (HM.out.fr f2.out (by omega)))
  rw [aw_get] at C3
  have C4 := Lib.hid (fun W (h : Below w2.heap.size w2 W) => resolve_any W p H1 awB1 1 sHead (HB2.out.step h) (by decide) ((HM.out.fr f2.out (by omega)).step h))
  simp only [aw_resolve, resV] at C4
  go_wp2_with (first
    | (go_at_call 13; refine C3.out.mono ?_; rintro e w3 ⟨rfl, b3⟩; have rv := (Blk.new w3 43 #[S [], S sMain]); clear C3)
    | (go_at_call 19; refine (C4.out _ (balloc b3 _)).mono ?_; rintro e w4 ⟨rfl, b4⟩; have q4 := Lib.hid (bstep (balloc b3 (.cells #[S [], S sMain] 43)) b4); have rv4 := (rv.step b4).cell; have rt4 := (hT2.out.step q4.out).cell; clear b4 b3 C4))
  have q2 : Hid (Fr (fun k => w.heap.size ≤ k) w w4) := Lib.hid (f2.out.step q4.out)
  have hS4 := hS2.out.step q4.out
  have zz : w1.heap.size < w2.heap.size := by have := hT2.out.lt; omega
  have C5 := apply_ok w4 p H1 awB1 1 (awX (some ⟨w1.heap.size, 0, none⟩)) _ (HB2.out.step q4.out) (by omega) hS4 (show 1 ≤ 1759218604390 by omega) aw_short (HM.out.fr q2.out (by omega)) (fun h => by have := (HH.out _ h).1; omega) aw_right
  refine C5.mono ?_
  rintro e w5 ⟨rfl, hB5, hF5⟩
  rw [show (RefsLaw.apply awB1 (awX (some ⟨w1.heap.size, 0, none⟩)).txn) = RefsLaw.apply awB1 awT from rfl] at *
  rw [aw_again]
  have q5 : Hid (Fr (fun k => w.heap.size ≤ k) w w5) := Lib.hid (q2.out.trans (hF5.weak (fun k hk => (HH.out k hk).1)))
  have C6 := count_any w5 p _ _ _ hB5
  rw [aw_count] at C6
  have C7 := log_any w5 p _ _ _ sHead hB5 (by omega)
  clear C5 hS4 hF5 hB5 q4 rv4 rt4 HB2 HH f2 hS2 hT2 q2
  go_wp2_with (first
    | (go_at_call 15; refine C6.mono ?_; rintro e w6 ⟨rfl, rfl⟩)
    | (go_at_call 20; refine C7.mono ?_; rintro e w7 ⟨A7, n7, c7, gs, rfl, hS7, hg7, _, b7⟩; obtain rfl : n7 = 1 := by have h1 := txs_count hS7; have h2 := congrArg List.length hg7; rw [List.length_map, aw_log] at h2; omega))
  go_ret
  exact ⟨rfl, (q5.out.step b7).below (Nat.le_refl _) (fun _ h => h)⟩
end Go.Proofs.YtegehaokfcamfaaGreatDoor

/-
  pair.known: the first id of each path. Conditions: the files read as a list, no more than 2000000; a path's length is an int.
-/
import Derived.Test.YtkginbfpokbhcaaGreatDoorMapSS
import Derived.Test.YtkginbfpokbhcaaGreatDoorFiles
import Derived.BigQuiet
namespace Go.Proofs.YtkginbfpokbhcaaGreatDoor
open Go.RowKit

set_option maxHeartbeats 4000000 in
set_option maxRecDepth 100000 in
theorem known_any (A : Option Addr) (n c : Nat) (l : List Fil) (w : World) (hA : Sl w 2 A n (fls l)) (hn : n ≤ 2000000) (hp : ∀ f ∈ l, f.1.length ≤ maxLen) :
    Calls Tryz.prog 61 #[.slice A n c] w fun e w' => ∃ m, e = .returned (.map (some m)) ∧ MapIs mssC w' m n (lk l) ∧ w.heap.size ≤ m ∧ Below w.heap.size w w' := by
  have HA := Lib.hid hA
  have HP := Lib.hid hp
  have hln := fls_count hA
  have hmm := @run_makeMap Tryz.prog
  have hm0 := MapIs.made mssC w
  have Hm0 := Lib.hid hm0
  clear hA hp hm0
  go_enter Tryz.func61, Tryz.ntmps61
  obtain ⟨m, hm⟩ : ∃ m, m = w.heap.size := ⟨_, rfl⟩
  go_wp2
  simp only [← hm]
  rw [← hm] at Hm0
  have HMW : Hid (m = w.heap.size) := Lib.hid hm
  clear hm
  have B0 : Hid (Below w.heap.size w (w.alloc (.map #[] 0))) := Lib.hid (balloc (Below.refl _ w) _)
  go_loopw [11] (fun i wr => ∃ k : Nat, i = .int .i64 k ∧ Hid (k ≤ n) ∧ Hid (MapIs mssC wr m k (lk (l.take k))) ∧ Hid (Below w.heap.size w wr)) (fun i _ => n - (intOf i).toNat)
  case atStart => exact ⟨0, rfl, Lib.hid (Nat.zero_le _), Lib.hid (by
    have h := Hm0.out
    have e : (fun _ => none : List UInt8 → Option (List UInt8)) = lk (l.take 0) := by funext s; simp [lk]
    rwa [e] at h), B0⟩
  case round =>
    obtain ⟨k, rfl, hk, hm1, hb⟩ := hrel
    by_cases hlt : k < n
    · obtain ⟨b, off, f, rfl, _, hf, x0, x1⟩ := (HA.out.below hb.out).fil hlt
      have Hf := Lib.hid hf
      clear hf
      obtain ⟨p, id⟩ := f
      have hgp := HP.out _ (List.mem_of_getElem? Hf.out)
      have hgp2 : mssC.good p := hgp
      have HB5 := Lib.hid (Blk.new wr 80 #[S p, S id])
      have b5 := balloc (Below.refl _ wr) (.cells #[S p, S id] 80)
      have HM5 := Lib.hid (hm1.out.step b5)
      have B5 := Lib.hid (bstep hb.out b5)
      have hkm : k < maxLen := by simp only [maxLen]; omega
      have Hgp := Lib.hid hgp2
      clear hgp hgp2
      have hm2 := HM5.out
      cases hq : (lk (l.take k) p).isSome with
      | true =>
        have Hq := Lib.hid hq
        clear hq
        go_wp2_with (at_lookup; refine wpList_look_ok _ rfl _ _ 136 rfl mssC Tryz.underlying136 [] (Tryz.zeroS _) m k _ rfl hm2 p rfl Hgp.out ?_; rw [Hq.out])
        go_roundw
        case rel => exact ⟨k + 1, by go_num, Lib.hid hlt, Lib.hid (by rw [lk_met Hf.out Hq.out]; exact HM5.out.mono (Nat.le_succ _)), B5⟩
        case measure => simp [intOf]; omega
      | false =>
        have Hq := Lib.hid hq
        clear hq
        go_wp2_with (first
          | (at_lookup; refine wpList_look_ok _ rfl _ _ 136 rfl mssC Tryz.underlying136 [] (Tryz.zeroS _) m k _ rfl hm2 p rfl Hgp.out ?_; rw [Hq.out])
          | (at_mapUpdate; refine wpList_store _ rfl _ _ _ 136 rfl mssC Tryz.underlying136 m k _ rfl hm2 hkm p rfl Hgp.out id rfl ?_; intro W2 hm3 hg3; have HM3 := Lib.hid hm3; have HB3 := Lib.hid (B5.out.grown hg3 B5.out.size (fun j e => by cases e; have := HMW.out; omega)); clear hm3 hg3))
        go_roundw
        case rel => exact ⟨k + 1, by go_num, Lib.hid hlt, Lib.hid (by rw [lk_new Hf.out Hq.out]; exact HM3.out), HB3⟩
        case measure => simp [intOf]; omega
    · obtain rfl : k = n := by have := hk.out; omega
      rw [List.take_of_length_le (by omega)] at hm1
      go_wp2
      go_ret
      exact ⟨m, rfl, hm1.out, by have := HMW.out; omega, hb.out⟩
end Go.Proofs.YtkginbfpokbhcaaGreatDoor

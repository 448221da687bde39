/-
  work.List. Conditions: the disk lies in memory; MaxLen holds an int.
-/
import Derived.Test.YtphnfcgdpdimbaaGreatDoorWorkRight
import Derived.Test.YtphnfcgdpdimbaaGreatDoorDiskNames
import Derived.Test.YtphnfcgdpdimbaaGreatDoorKitX
namespace Go.Proofs.YtphnfcgdpdimbaaGreatDoor
open Go.RowKit

/-- the path of a disk's name, if it is a working file's -/
def pathOf (s : List UInt8) : Option (List UInt8) := if Lib.hasPrefix s [119, 47] && workedB (Lib.trimPrefix s [119, 47]) then some (Lib.trimPrefix s [119, 47]) else none
def listOf (ns : List (List UInt8)) : List (List UInt8) := ns.filterMap pathOf
theorem trim_len (s t : List UInt8) : (Lib.trimPrefix s t).length ≤ s.length := by
  unfold Lib.trimPrefix
  split <;> simp
set_option maxHeartbeats 2000000 in
set_option maxRecDepth 100000 in
theorem wlist_any (w : World) (p m n : Nat) (cap : Int) (L : List DF) (h : DiskAt w p m n cap L) (hl : L.length ≤ 1000000) (hM : MaxL w) :
    Calls Tryz.prog 28 #[.pointer (some ⟨p, 0, none⟩)] w fun e w' => ∃ (A : Option Addr) (k c : Nat) (ns : List (List UInt8)), e = .returned (.slice A k c) ∧ ns.Perm (L.map (·.1)) ∧ ns.Pairwise (· < ·) ∧ Ow w w' 9 1 A k c (strs (listOf ns)) := by
  obtain ⟨j0, hj0, hy0, hy1, hy2⟩ := info_parts Tryz.infoStr
  have C1 := Lib.hid (dnames_any w p m n cap L h hl)
  have HM := Lib.hid hM
  have HN := Lib.hid (show ∀ s ∈ L.map (·.1), s.length ≤ 200 from fun s hs => by
    obtain ⟨x, hx, rfl⟩ := List.mem_map.1 hs
    exact (okName_len (h.name x hx)).2)
  have CP : Hid (∀ (s : List UInt8) (W : World), Calls Tryz.prog 76 #[S s, .string ⟨#[119, 47]⟩] W fun e w' => e = .returned (.tuple #[S (Lib.trimPrefix s [119, 47]), .bool (Lib.hasPrefix s [119, 47])]) ∧ w' = W) := Lib.hid (fun s W => Tryz.strings_CutPrefix ⟨s.toArray⟩ ⟨#[119, 47]⟩ W)
  clear h hM
  go_enter Tryz.func28, Tryz.ntmps28
  go_wp2_with fail
  refine C1.out.mono ?_
  rintro e w1 ⟨A1, c1, ns, rfl, hpm, hri, hO1⟩
  have HO1 := Lib.hid hO1
  have HPm := Lib.hid hpm
  have HRi := Lib.hid hri
  have hlen : Hid (ns.length = L.length) := Lib.hid (by rw [hpm.length_eq, List.length_map])
  obtain ⟨N, hN⟩ : ∃ N, N = L.length := ⟨_, rfl⟩
  rw [← hN] at HO1 hlen hl
  rw [← hN]
  clear hO1 hpm hri C1 hN
  go_wp2
  go_loopw [3, 11] (fun s3 s11 wr => ∃ (i k c : Nat) (A : Option Addr), s11 = .int .i64 i ∧ s3 = .slice A k c ∧ Hid (i ≤ N) ∧ Hid (k ≤ i) ∧ Hid (Ow w1 wr 9 1 A k c (strs (listOf (ns.take i))))) (fun _ s11 _ => N - (intOf s11).toNat)
  case atStart => exact ⟨0, 0, 0, none, rfl, rfl, Lib.hid (Nat.zero_le _), Lib.hid (Nat.le_refl _), Lib.hid (Ow.nil_ (Below.refl _ _))⟩
  case round =>
    obtain ⟨i, k, c, A, rfl, rfl, hi, hk, hO⟩ := hrel
    by_cases hlt : i < N
    · obtain ⟨b, off, s, rfl, hs, s0⟩ := (HO1.out.sl.below hO.out.2).str hlt
      have Hs := Lib.hid hs
      have hsl := HN.out s (HPm.out.mem_iff.1 (List.mem_of_getElem? hs))
      clear hs
      have C2 := Lib.hid (worked_any (Lib.trimPrefix s [119, 47]) wr (by have := trim_len s [119, 47]; omega) (HM.out.step (HO1.out.2.trans (hO.out.2.mono HO1.out.size))))
      have q1 : k + 1 ≤ maxLen := by have := hk.out; simp only [maxLen]; omega
      have q2 : (k + 1) * 16 ≤ 140737488355328 := by have := hk.out; omega
      go_wp2_with fail
      refine (CP.out _ _).mono ?_
      rintro e w2 ⟨rfl, rfl⟩
      clear hsl
      rcases hpf : Lib.hasPrefix s [119, 47] with _ | _
      · have ht : Hid (listOf (ns.take (i + 1)) = listOf (ns.take i)) := Lib.hid (by
          have e : pathOf s = none := by unfold pathOf; rw [hpf]; simp
          unfold listOf
          rw [List.take_add_one, Hs.out, List.filterMap_append]
          simp [e])
        clear hpf C2
        go_wp2
        go_roundw
        case rel => exact ⟨i + 1, k, c, A, by go_num, rfl, Lib.hid hlt, Lib.hid (Nat.le_succ_of_le hk.out), Lib.hid (by rw [ht.out]; exact hO.out)⟩
        case measure => simp [intOf]; omega
      · go_wp2_with fail
        refine C2.out.mono ?_
        rintro e w3 ⟨rfl, b3⟩
        have HO3 := Lib.hid (hO.out.keep b3)
        clear b3 C2
        rcases hwk : workedB (Lib.trimPrefix s [119, 47]) with _ | _
        · have ht : Hid (listOf (ns.take (i + 1)) = listOf (ns.take i)) := Lib.hid (by
            have e : pathOf s = none := by unfold pathOf; rw [hpf, hwk]; simp
            unfold listOf
            rw [List.take_add_one, Hs.out, List.filterMap_append]
            simp [e])
          clear hpf hwk
          go_wp2
          go_roundw
          case rel => exact ⟨i + 1, k, c, A, by go_num, rfl, Lib.hid hlt, Lib.hid (Nat.le_succ_of_le hk.out), Lib.hid (by rw [ht.out]; exact HO3.out)⟩
          case measure => simp [intOf]; omega
        · have ht : Hid (listOf (ns.take (i + 1)) = listOf (ns.take i) ++ [Lib.trimPrefix s [119, 47]]) := Lib.hid (by
            have e : pathOf s = some (Lib.trimPrefix s [119, 47]) := by unfold pathOf; rw [hpf, hwk]; simp
            unfold listOf
            rw [List.take_add_one, Hs.out, List.filterMap_append]
            simp [e])
          clear hpf hwk
          have HO4 := Lib.hid (HO3.out.alloc (.cells #[S (Lib.trimPrefix s [119, 47])] 9))
          have HS4 := Lib.hid (sl_one w3 9 (S (Lib.trimPrefix s [119, 47])))
          go_wp2_with (at_builtin; refine wpList_append_sl _ rfl (.tmp 25) (.tmp 27) _ rfl w1 9 j0 _ 1 16 Tryz.underlying52 hj0 hy0 hy1 hy2 rfl Nat.one_pos A k c _ rfl HO4.out _ 1 1 [S (Lib.trimPrefix s [119, 47])] rfl HS4.out (one_strs [Lib.trimPrefix s [119, 47]]) q1 q2 ?_; intro A5 c5 w5 hO5 hg5 ha5; have HO5 := Lib.hid hO5; clear hO5 hg5 ha5)
          go_roundw
          case rel => exact ⟨i + 1, k + 1, c5, A5, by go_num, rfl, Lib.hid hlt, Lib.hid (Nat.succ_le_succ hk.out), Lib.hid (by rw [ht.out, show strs (listOf (ns.take i) ++ [Lib.trimPrefix s [119, 47]]) = strs (listOf (ns.take i)) ++ [S (Lib.trimPrefix s [119, 47])] by simp [strs]]; exact HO5.out)⟩
          case measure => simp [intOf]; omega
    · obtain rfl : i = N := by have := hi.out; omega
      rw [List.take_of_length_le (by rw [hlen.out]; exact Nat.le_refl _)] at hO
      go_wp2
      go_ret
      exact ⟨A, k, c, ns, rfl, HPm.out, HRi.out, hO.out.since HO1.out.2⟩
end Go.Proofs.YtphnfcgdpdimbaaGreatDoor

/-
  store.Open of a disk that has no packs. Condition: no file is called as a pack is.
-/
import Derived.Test.YtkginbfpokbhcaaGreatDoorDiskNames
import Derived.Test.YtkginbfpokbhcaaGreatDoorDiskNew
namespace Go.Proofs.YtkginbfpokbhcaaGreatDoor
open Go.RowKit

abbrev packs0 : Array Value := #[.slice none 0 0, .slice none 0 0, .int .u32 0, .int .i32 0, .int .u32 0, .slice none 0 0]
theorem Tryz.infoPacks : (Tryz.prog.info? 247).map (fun i => (i.zero, i.size)) = some (some (.agg packs0), 6) := by kernel_rfl
/-- the store of a disk that has no packs -/
structure StoreAt (w : World) (q p pk : Nat) : Prop where
  blk : Blk w q 192 #[.pointer (some ⟨p, 0, none⟩), .pointer (some ⟨pk, 0, none⟩)]
  packs : Blk w pk 247 packs0
def noPack (s : List UInt8) : Bool := !Lib.hasPrefix s [112, 47] || Lib.hasSuffix s [126]
set_option maxHeartbeats 2000000 in
set_option maxRecDepth 100000 in
theorem sread_any (w : World) (p m n : Nat) (cap : Int) (L : List DF) (h : DiskAt w p m n cap L) (hl : L.length ≤ 1000000) (hp : ∀ x ∈ L, noPack x.1 = true) :
    Calls Tryz.prog 117 #[.pointer (some ⟨p, 0, none⟩)] w fun e w' => ∃ pk, e = .returned (.tuple #[.pointer (some ⟨pk, 0, none⟩), I 0]) ∧ w.heap.size ≤ pk ∧ Blk w' pk 247 packs0 ∧ Below w.heap.size w w' := by
  obtain ⟨i0, hi⟩ : ∃ i0, Tryz.prog.info? 247 = some i0 ∧ i0.zero = some (.agg packs0) := by
    have h := Tryz.infoPacks
    rcases e : Tryz.prog.info? 247 with _ | i
    · rw [e] at h; cases h
    · rw [e] at h; simp at h; exact ⟨i, rfl, h.1⟩
  obtain ⟨hi0, hi1⟩ := hi
  have B1 := Lib.hid (balloc (Below.refl _ w) (.cells packs0 247))
  have HB := Lib.hid (Blk.new w 247 packs0)
  have C1 := Lib.hid (dnames_any _ p m n cap L (h.step B1.out) hl)
  have HP := Lib.hid hp
  have HNm := Lib.hid h.name
  clear h hp
  go_enter Tryz.func117, Tryz.ntmps117
  go_wp2_with (go_at_call 79; refine C1.out.mono ?_; rintro e w2 ⟨A, c, ns, rfl, hpm, _, hO⟩; have HO := Lib.hid hO; have HN : Hid (∀ s ∈ ns, noPack s = true ∧ s.length ≤ 200) := Lib.hid (fun s hs => by (obtain ⟨x, hx, rfl⟩ := List.mem_map.1 (hpm.mem_iff.1 hs); exact ⟨HP.out x hx, (okName_len (HNm.out x hx)).2⟩)); clear hO hpm)
  generalize L.length = N at *
  go_loopw [16] (fun i wr => ∃ k : Nat, k ≤ N ∧ i = .int .i64 k ∧ wr = w2) (fun i _ => N - (intOf i).toNat)
  case atStart => exact ⟨0, Nat.zero_le _, rfl, rfl⟩
  case round =>
    obtain ⟨k, hk, rfl, rfl⟩ := hrel
    by_cases hlt : k < N
    · obtain ⟨b, off, s, rfl, hs, x0⟩ := HO.out.sl.str hlt
      obtain ⟨hs2, hs3⟩ := HN.out s (List.mem_of_getElem? hs)
      have CP : Calls Tryz.prog 76 #[S s, S [112, 47]] wr fun e w' => e = .returned (.bool (Lib.hasPrefix s [112, 47])) ∧ wr = w' := (Tryz.strings_HasPrefix ⟨s.toArray⟩ ⟨#[112, 47]⟩ wr).mono fun e w' ⟨h1, h2⟩ => ⟨by rw [h1], h2.symm⟩
      clear hs
      unfold noPack at hs2
      cases hq : Lib.hasPrefix s [112, 47] with
      | false =>
        rw [hq] at CP
        have HC := Lib.hid CP
        clear CP hs2 hq
        go_wp2_with (go_at_call 76; refine HC.out.mono ?_; rintro e w3 ⟨rfl, rfl⟩)
        go_roundw
        case rel => exact ⟨k + 1, by omega, by go_num, trivial⟩
        case measure => simp [intOf]; omega
      | true =>
        rw [hq] at CP hs2
        have CS : Calls Tryz.prog 84 #[S s, S [126]] wr fun e w' => e = .returned (.bool true) ∧ wr = w' := (Tryz.strings_HasSuffix ⟨s.toArray⟩ ⟨#[126]⟩ wr (by rw [size_mk]; omega)).mono fun e w' ⟨h1, h2⟩ => ⟨by rw [h1]; simpa using hs2, h2.symm⟩
        have HC := Lib.hid CP
        have HC2 := Lib.hid CS
        clear CP CS hs2 hq
        go_wp2_with (first
          | (go_at_call 76; refine HC.out.mono ?_; rintro e w3 ⟨rfl, rfl⟩)
          | (go_at_call 84; refine HC2.out.mono ?_; rintro e w3 ⟨rfl, rfl⟩))
        go_roundw
        case rel => exact ⟨k + 1, by omega, by go_num, trivial⟩
        case measure => simp [intOf]; omega
    · obtain rfl : k = N := by omega
      go_wp2
      go_ret2
      exact ⟨w.heap.size, rfl, Nat.le_refl _, HB.out.step HO.out.2, bstep B1.out HO.out.2⟩
set_option maxHeartbeats 2000000 in
set_option maxRecDepth 100000 in
theorem sopen_any (w : World) (p m n : Nat) (cap : Int) (L : List DF) (h : DiskAt w p m n cap L) (hl : L.length ≤ 1000000) (hp : ∀ x ∈ L, noPack x.1 = true) (hno : getF L [112, 47] = none) :
    Calls Tryz.prog 59 #[.pointer (some ⟨p, 0, none⟩)] w fun e w' => ∃ q pk, e = .returned (.tuple #[.pointer (some ⟨q, 0, none⟩), I 0]) ∧ w.heap.size ≤ q ∧ w.heap.size ≤ pk ∧ StoreAt w' q p pk ∧ Below w.heap.size w w' := by
  have C1 := Lib.hid (dread_none w p m n cap L [112, 47] h (by decide) hno)
  have C2 := Lib.hid (fun W (hb : Below w.heap.size w W) => sread_any W p m n cap L (h.step hb) hl hp)
  clear h hp hno
  go_enter Tryz.func59, Tryz.ntmps59
  go_wp2_with (first
    | (go_at_call 54; refine C1.out.mono ?_; rintro e w2 ⟨rfl, b2⟩; have B2 := Lib.hid b2; clear b2)
    | (go_at_call 117; refine (C2.out _ B2.out).mono ?_; rintro e w3 ⟨pk, rfl, hpk, hB, b3⟩; have B3 := Lib.hid (bstep B2.out b3); have Hpk := Lib.hid (Nat.le_trans B2.out.size hpk); have HB := Lib.hid hB; clear b3 hpk hB))
  go_ret2
  exact ⟨w3.heap.size, pk, rfl, B3.out.size, Hpk.out, ⟨Blk.new w3 _ _, HB.out.alloc _⟩, bstep B3.out (balloc (Below.refl _ w3) _)⟩
end Go.Proofs.YtkginbfpokbhcaaGreatDoor

/-
  Texts merged: Loose, StoreOpen, Store1, Store2, Store3. What each law says and asks stands at its head.
-/
import Derived.Test.YtcednfmkiaelnaaGreatDoorTHex
import Derived.Test.YtcednfmkiaelnaaGreatDoorTKitPr
import Derived.Test.YtcednfmkiaelnaaGreatDoorTKitDe
import Derived.Test.YtcednfmkiaelnaaGreatDoorTKitD
import Derived.Test.YtcednfmkiaelnaaGreatDoorTSafeSave
import Derived.Test.YtcednfmkiaelnaaGreatDoorTWorkRight
import Derived.Test.YtcednfmkiaelnaaGreatDoorTDiskNames
import Derived.Test.YtcednfmkiaelnaaGreatDoorTDiskNew
namespace Go.Proofs.YtcednfmkiaelnaaGreatDoor
open Go.RowKit
structure ObjY where
 tr : List UInt8
 pA : Option Addr
 pn : Nat
 pc : Nat
 ta : List UInt8
 nm : List UInt8
 wh : List UInt8
 st : Int
 tx : List UInt8
def ObjY.none9 : ObjY := ⟨[], none, 0, 0, [], [], [], 0, []⟩
abbrev objV (k : Int) (dA : Option Addr) (dn dc : Nat) (eA : Option Addr) (en ec : Nat) (y : ObjY) : Array Value := #[I k, .slice dA dn dc, .slice eA en ec, S y.tr, .slice y.pA y.pn y.pc, S y.ta, S y.nm, S y.wh, I y.st, S y.tx]
def DecOk (raw : List UInt8) : Prop := ∀ (V : World) (A : Option Addr) (n c : Nat), Sl V 1 A n (u8s raw) → n ≤ c → Calls Tryz.prog 94 #[.slice A n c] V fun e w' => (∃ (k : Int) (dA : Option Addr) (dn dc : Nat) (eA : Option Addr) (en ec : Nat) (y : ObjY), e = .returned (.tuple #[.agg (objV k dA dn dc eA en ec y), I 0])) ∧ Below V.heap.size V w'
def oname (id : List UInt8) : List UInt8 := [111, 47] ++ hexL id
theorem oname_len (id : List UInt8) : (oname id).length = 2 + 2 * id.length := by unfold oname; rw [List.length_append, hexL_len]; simp
theorem oname_inj {a b : List UInt8} (h : oname a = oname b) : a = b := hex_inj a b (List.append_cancel_left h)
theorem oname_zero (id : List UInt8) : (0 : UInt8) ∉ oname id := by
 unfold oname
 intro h
 rcases List.mem_append.1 h with h | h
 ·simp at h
 ·exact hex_zero id h
set_option maxRecDepth 100000 in
set_option maxHeartbeats 1000000 in
theorem loname_any (id : List UInt8) (w : World) (h : id.length ≤ 1000000) :
  Calls Tryz.prog 153 #[S id] w fun e w' => e = .returned (S (oname id)) ∧ Below w.heap.size w w' := by
 have C1 := Lib.hid (hex_any id w h)
 have hl : (hexL id).length ≤ 2000000 := by rw [hexL_len]; omega
 have Hb := Lib.hid (ba_app [111, 47] (hexL id))
 obtain ⟨h9, hh⟩ : ∃ h9, h9 = hexL id := ⟨_, rfl⟩
 rw [← hh] at C1 hl Hb
 have Hh := Lib.hid (show oname id = [111, 47] ++ h9 by rw [hh]; rfl)
 clear hh
 go_enter Tryz.func153, Tryz.ntmps153
 go_wp2_with fail
 refine C1.out.mono ?_
 rintro e w1 ⟨rfl, b1⟩
 have B1 := Lib.hid b1
 clear b1 C1
 go_wp2
 go_ret
 exact ⟨by rw [Hh.out, Hb.out]; rfl, B1.out⟩
set_option maxRecDepth 100000 in
set_option maxHeartbeats 2000000 in
theorem lright_any (w : World) (p m n : Nat) (cap : Int) (L : List DF) (id : List UInt8) (h : DiskAt w p m n cap L) (hno : getF L [111, 47] = none) (_hid : id.length ≤ 9000000000000000000) :
  Calls Tryz.prog 151 #[.pointer (some ⟨p, 0, none⟩), S id] w fun e w' => e = .returned (.bool (decide (id.length = 32))) ∧ Below w.heap.size w w' := by
 have C1 := Lib.hid (dread_none w p m n cap L [111, 47] h (by decide) hno)
 clear h hno
 go_enter Tryz.func151, Tryz.ntmps151
 go_wp2_with fail
 refine C1.out.mono ?_
 rintro e w1 ⟨rfl, b1⟩
 have B1 := Lib.hid b1
 clear b1 C1
 go_wp2
 go_ret
 exact ⟨ret_bool (by rw [Bool.eq_iff_iff]; simp; omega), B1.out⟩
theorem oname_ok {id : List UInt8} (h : id.length = 32) : okName (oname id) = true := by
 unfold okName
 simp only [Bool.and_eq_true, decide_eq_true_eq]
 refine ⟨by rw [oname_len]; omega, by rw [oname_len]; omega, idx_none.2 (oname_zero id)⟩
def RetG (w : World) (r : Option (List UInt8)) (z : Int) (e : Ending) (w' : World) : Prop :=
 (match r with
  | none => e = .returned (.tuple #[.slice none 0 0, I z])
  | some l => ∃ (A : Option Addr) (n c : Nat), e = .returned (.tuple #[.slice A n c, I 0]) ∧ Sl w' 1 A n (u8s l) ∧ n ≤ c ∧ SlT (fun _ => True) 5 w' 1 A n (u8s l)) ∧ Below w.heap.size w w'
set_option maxRecDepth 100000 in
set_option maxHeartbeats 2000000 in
/-- an id that none may have -/
theorem lget_bad (w : World) (p m n : Nat) (cap : Int) (L : List DF) (id : List UInt8) (h : DiskAt w p m n cap L) (hno : getF L [111, 47] = none) (hl : id.length ≤ 9000000000000000000) (hid : id.length ≠ 32) :
  Calls Tryz.prog 138 #[.pointer (some ⟨p, 0, none⟩), S id] w (RetG w none 1) := by
 have C1 := Lib.hid (lright_any w p m n cap L id h hno hl)
 rw [show decide (id.length = 32) = false from decide_eq_false hid] at C1
 clear h hno
 go_enter Tryz.func138, Tryz.ntmps138
 go_wp2_with fail
 refine C1.out.mono ?_
 rintro e w1 ⟨rfl, b1⟩
 have B1 := Lib.hid b1
 clear b1 C1
 go_wp2
 go_ret2
 exact ⟨rfl, B1.out⟩
set_option maxRecDepth 100000 in
set_option maxHeartbeats 2000000 in
/-- none is there -/
theorem lget_none (w : World) (p m n : Nat) (cap : Int) (L : List DF) (id : List UInt8) (h : DiskAt w p m n cap L) (hno : getF L [111, 47] = none) (hid : id.length = 32) (hg : getF L (oname id) = none) :
  Calls Tryz.prog 138 #[.pointer (some ⟨p, 0, none⟩), S id] w (RetG w none 6) := by
 have C1 := Lib.hid (lright_any w p m n cap L id h hno (by omega))
 rw [show decide (id.length = 32) = true from decide_eq_true hid] at C1
 have C2 := Lib.hid (fun V => loname_any id V (by omega))
 have C3 := Lib.hid (fun V (hV : Below w.heap.size w V) => dread_none V p m n cap L (oname id) (h.step hV) (oname_ok hid) hg)
 clear h hno hg hid
 go_enter Tryz.func138, Tryz.ntmps138
 go_wp2_with fail
 refine C1.out.mono ?_
 rintro e w1 ⟨rfl, b1⟩
 have B1 := Lib.hid b1
 clear b1 C1
 go_wp2_with fail
 refine (C2.out w1).mono ?_
 rintro e w2 ⟨rfl, b2⟩
 have B2 := Lib.hid (bstep B1.out b2)
 clear b2 C2
 go_wp2_with fail
 refine (C3.out w2 B2.out).mono ?_
 rintro e w3 ⟨rfl, b3⟩
 have B3 := Lib.hid (bstep B2.out b3)
 clear b3 C3
 go_wp2
 go_ret2
 exact ⟨rfl, B3.out⟩
set_option maxRecDepth 100000 in
set_option maxHeartbeats 8000000 in
/-- it is there -/
theorem lget_some (w : World) (p m n : Nat) (cap : Int) (L : List DF) (raw : List UInt8) (x : DF) (h : DiskAt w p m n cap L) (hno : getF L [111, 47] = none) (hg : getF L (oname (sumL raw)) = some x) (hP : Pressed raw x.2.2) (hx : x.2.2.length ≤ 100000000) (hr : raw.length ≤ 2097152) (hD : DecOk raw) :
  Calls Tryz.prog 138 #[.pointer (some ⟨p, 0, none⟩), S (sumL raw)] w (RetG w (some raw) 0) := by
 obtain ⟨id, hid⟩ : ∃ id, id = sumL raw := ⟨_, rfl⟩
 have hl : id.length = 32 := by rw [hid]; exact sumL_len raw
 rw [← hid] at hg ⊢
 have C1 := Lib.hid (lright_any w p m n cap L id h hno (by omega))
 rw [show decide (id.length = 32) = true from decide_eq_true hl] at C1
 have C2 := Lib.hid (fun V => loname_any id V (by omega))
 have C3 := Lib.hid (fun V (hV : Below w.heap.size w V) => dread_some V p m n cap L (oname id) x (h.step hV) hg)
 have Hid9 := Lib.hid hid
 have HP := Lib.hid hP
 have HD := Lib.hid hD
 have Hx := Lib.hid hx
 have Hr := Lib.hid hr
 clear h hno hg hl hid hP hD hx hr
 go_enter Tryz.func138, Tryz.ntmps138
 go_wp2_with fail
 refine C1.out.mono ?_
 rintro e w1 ⟨rfl, b1⟩
 have B1 := Lib.hid b1
 clear b1 C1
 go_wp2_with fail
 refine (C2.out w1).mono ?_
 rintro e w2 ⟨rfl, b2⟩
 have B2 := Lib.hid (bstep B1.out b2)
 clear b2 C2
 go_wp2_with fail
 refine (C3.out w2 B2.out).mono ?_
 rintro e w3 ⟨A3, k3, c3, rfl, hO3⟩
 have B3 := Lib.hid (bstep B2.out hO3.2)
 have hk3 : x.2.2.length = k3 := ow_len hO3
 have CO := Lib.hid (popen_any A3 k3 c3 2097152 x.2.2 raw w3 (hO3.slT.weak (fun _ _ _ => trivial)) hO3.cap.1 (by have := Hx.out; omega) HP.out Hr.out (by have := Hr.out; omega))
 clear hO3 hk3 C3
 go_wp2_with fail
 refine CO.out.mono ?_
 rintro e w4 ⟨⟨A4, k4, c4, rfl, hO4⟩, b4⟩
 have HO4 := Lib.hid hO4
 have B4 := Lib.hid (bstep B3.out b4)
 have hk4 : raw.length = k4 := ow_len hO4
 have CS := Lib.hid (sum_any w4 A4 k4 c4 raw (hO4.slT.weak (fun _ _ _ => trivial)) (by have := Hr.out; omega))
 rw [← Hid9.out] at CS
 clear hO4 b4 hk4 CO
 go_wp2_with fail
 refine CS.out.mono ?_
 rintro e w5 ⟨rfl, b5⟩
 have B5 := Lib.hid (bstep B4.out b5)
 have HO5 := Lib.hid (HO4.out.keep b5)
 have CD := Lib.hid (HD.out w5 A4 k4 c4 HO5.out.sl HO5.out.cap.1)
 clear b5 CS
 go_wp2_with fail
 refine CD.out.mono ?_
 rintro e w6 ⟨⟨ok, dA, dn, dc, eA, en, ec, y, rfl⟩, b6⟩
 have B6 := Lib.hid (bstep B5.out b6)
 have HO6 := Lib.hid (HO5.out.keep b6)
 clear b6 CD
 obtain ⟨w7, hw7⟩ : ∃ w7, w7 = w6.alloc (.cells (objV ok dA dn dc eA en ec y) 96) := ⟨_, rfl⟩
 have b7 : Below w6.heap.size w6 w7 := by rw [hw7]; exact balloc (Below.refl _ _) _
 have B7 := Lib.hid (bstep B6.out b7)
 have HO7 := Lib.hid (HO6.out.keep b7)
 clear b7
 go_wp2
 rw [← hw7]
 go_ret2
 exact ⟨⟨A4, k4, c4, rfl, HO7.out.sl, HO7.out.cap.1, HO7.out.slT.weak (fun _ _ _ => trivial)⟩, B7.out⟩
abbrev packs0 : Array Value := #[.slice none 0 0, .slice none 0 0, .int .u32 0, .int .i32 0, .int .u32 0, .slice none 0 0]
theorem Tryz.infoPacks : (Tryz.prog.info? 189).map (fun i => (i.zero, i.size)) = some (some (.agg packs0), 6) := by kernel_rfl
structure StoreAt (w : World) (q p pk : Nat) : Prop where
 blk : Blk w q 125 #[.pointer (some ⟨p, 0, none⟩), .pointer (some ⟨pk, 0, none⟩)]
 packs : Blk w pk 189 packs0
def noPack (s : List UInt8) : Bool := !Lib.hasPrefix s [112, 47] || Lib.hasSuffix s [126]
set_option maxHeartbeats 2000000 in
set_option maxRecDepth 100000 in
theorem sread_any (w : World) (p m n : Nat) (cap : Int) (L : List DF) (h : DiskAt w p m n cap L) (hl : L.length ≤ 1000000) (hp : ∀ x ∈ L, noPack x.1 = true) :
  Calls Tryz.prog 57 #[.pointer (some ⟨p, 0, none⟩)] w fun e w' => ∃ pk, e = .returned (.tuple #[.pointer (some ⟨pk, 0, none⟩), I 0]) ∧ w.heap.size ≤ pk ∧ Blk w' pk 189 packs0 ∧ Below w.heap.size w w' := by
 obtain ⟨i0, hi⟩ : ∃ i0, Tryz.prog.info? 189 = some i0 ∧ i0.zero = some (.agg packs0) := by
  have h := Tryz.infoPacks
  rcases e : Tryz.prog.info? 189 with _ | i
  ·rw [e] at h; cases h
  ·rw [e] at h; simp at h; exact ⟨i, rfl, h.1⟩
 obtain ⟨hi0, hi1⟩ := hi
 have B1 := Lib.hid (balloc (Below.refl _ w) (.cells packs0 189))
 have HB := Lib.hid (Blk.new w 189 packs0)
 have C1 := Lib.hid (dnames_any _ p m n cap L (h.step B1.out) hl)
 have HP := Lib.hid hp
 have HNm := Lib.hid h.name
 clear h hp
 go_enter Tryz.func57, Tryz.ntmps57
 go_wp2_with (go_at_call 100; refine C1.out.mono ?_; rintro e w2 ⟨A, c, ns, rfl, hpm, _, hO⟩; have HO := Lib.hid hO; have HN : Hid (∀ s ∈ ns, noPack s = true ∧ s.length ≤ 200) := Lib.hid (fun s hs => by (obtain ⟨x, hx, rfl⟩ := List.mem_map.1 (hpm.mem_iff.1 hs); exact ⟨HP.out x hx, (okName_len (HNm.out x hx)).2⟩)); clear hO hpm)
 generalize L.length = N at *
 go_loopw [16] (fun i wr => ∃ k : Nat, k ≤ N ∧ i = .int .i64 k ∧ wr = w2) (fun i _ => N - (intOf i).toNat)
 case atStart => exact ⟨0, Nat.zero_le _, rfl, rfl⟩
 case round =>
  obtain ⟨k, hk, rfl, rfl⟩ := hrel
  by_cases hlt : k < N
  ·obtain ⟨b, off, s, rfl, hs, x0⟩ := HO.out.sl.str hlt
   obtain ⟨hs2, hs3⟩ := HN.out s (List.mem_of_getElem? hs)
   have CP : Calls Tryz.prog 36 #[S s, S [112, 47]] wr fun e w' => e = .returned (.bool (Lib.hasPrefix s [112, 47])) ∧ wr = w' := (Tryz.strings_HasPrefix ⟨s.toArray⟩ ⟨#[112, 47]⟩ wr).mono fun e w' ⟨h1, h2⟩ => ⟨by rw [h1], h2.symm⟩
   clear hs
   unfold noPack at hs2
   cases hq : Lib.hasPrefix s [112, 47] with
   | false =>
    rw [hq] at CP
    have HC := Lib.hid CP
    clear CP hs2 hq
    go_wp2_with (go_at_call 36; refine HC.out.mono ?_; rintro e w3 ⟨rfl, rfl⟩)
    go_roundw
    case rel => exact ⟨k + 1, by omega, by go_num, trivial⟩
    case measure => simp [intOf]; omega
   | true =>
    rw [hq] at CP hs2
    have CS : Calls Tryz.prog 101 #[S s, S [126]] wr fun e w' => e = .returned (.bool true) ∧ wr = w' := (Tryz.strings_HasSuffix ⟨s.toArray⟩ ⟨#[126]⟩ wr (by rw [size_mk]; omega)).mono fun e w' ⟨h1, h2⟩ => ⟨by rw [h1]; simpa using hs2, h2.symm⟩
    have HC := Lib.hid CP
    have HC2 := Lib.hid CS
    clear CP CS hs2 hq
    go_wp2_with (first
     | (go_at_call 36; refine HC.out.mono ?_; rintro e w3 ⟨rfl, rfl⟩)
     | (go_at_call 101; refine HC2.out.mono ?_; rintro e w3 ⟨rfl, rfl⟩))
    go_roundw
    case rel => exact ⟨k + 1, by omega, by go_num, trivial⟩
    case measure => simp [intOf]; omega
  ·obtain rfl : k = N := by omega
   go_wp2
   go_ret2
   exact ⟨w.heap.size, rfl, Nat.le_refl _, HB.out.step HO.out.2, bstep B1.out HO.out.2⟩
set_option maxHeartbeats 2000000 in
set_option maxRecDepth 100000 in
theorem sopen_any (w : World) (p m n : Nat) (cap : Int) (L : List DF) (h : DiskAt w p m n cap L) (hl : L.length ≤ 1000000) (hp : ∀ x ∈ L, noPack x.1 = true) (hno : getF L [112, 47] = none) :
  Calls Tryz.prog 27 #[.pointer (some ⟨p, 0, none⟩)] w fun e w' => ∃ q pk, e = .returned (.tuple #[.pointer (some ⟨q, 0, none⟩), I 0]) ∧ w.heap.size ≤ q ∧ w.heap.size ≤ pk ∧ StoreAt w' q p pk ∧ Below w.heap.size w w' := by
 have C1 := Lib.hid (dread_none w p m n cap L [112, 47] h (by decide) hno)
 have C2 := Lib.hid (fun W (hb : Below w.heap.size w W) => sread_any W p m n cap L (h.step hb) hl hp)
 clear h hp hno
 go_enter Tryz.func27, Tryz.ntmps27
 go_wp2_with (first
  | (go_at_call 56; refine C1.out.mono ?_; rintro e w2 ⟨rfl, b2⟩; have B2 := Lib.hid b2; clear b2)
  | (go_at_call 57; refine (C2.out _ B2.out).mono ?_; rintro e w3 ⟨pk, rfl, hpk, hB, b3⟩; have B3 := Lib.hid (bstep B2.out b3); have Hpk := Lib.hid (Nat.le_trans B2.out.size hpk); have HB := Lib.hid hB; clear b3 hpk hB))
 go_ret2
 exact ⟨w3.heap.size, pk, rfl, B3.out.size, Hpk.out, ⟨Blk.new w3 _ _, HB.out.alloc _⟩, bstep B3.out (balloc (Below.refl _ w3) _)⟩
theorem digs_tilde : ∀ a : Fin 16, digs.getD a.val 0 ≠ 126 := by decide
theorem oname_tilde (id : List UInt8) : (126 : UInt8) ∉ oname id := by
 unfold oname
 intro h
 rcases List.mem_append.1 h with h | h
 ·simp at h
 ·unfold hexL at h
  obtain ⟨c, _, hc⟩ := List.mem_flatMap.1 h
  simp only [List.mem_cons, List.not_mem_nil, or_false] at hc
  rcases hc with hc | hc
  ·exact digs_tilde ⟨c.toNat / 16, by have := c.toNat_lt; omega⟩ hc.symm
  ·exact digs_tilde ⟨c.toNat % 16, by omega⟩ hc.symm
theorem oname_suffix (id : List UInt8) : Lib.hasSuffix (oname id) [126] = false := by
 rw [Bool.eq_false_iff]
 intro h
 unfold Lib.hasSuffix at h
 obtain ⟨r, hr⟩ := List.isSuffixOf_iff_suffix.1 h
 exact oname_tilde id (by rw [← hr]; simp)
theorem oname_sh {id : List UInt8} (h : id.length = 32) : okName (shName (oname id)) = true := by
 unfold okName shName
 simp only [Bool.and_eq_true, decide_eq_true_eq]
 refine ⟨by rw [List.length_append, oname_len]; omega, by rw [List.length_append, oname_len, h]; decide, idx_none.2 ?_⟩
 intro h0
 rcases List.mem_append.1 h0 with h0 | h0
 ·exact oname_zero id h0
 ·simp at h0
def needP (r : Nat) : Nat := 100 + 6 * r / 5
set_option maxRecDepth 100000 in
set_option maxHeartbeats 8000000 in
theorem lput_any (w : World) (p m n : Nat) (cap : Int) (L : List DF) (raw : List UInt8) (A : Option Addr) (k c : Nat) (hA : SlT (fun _ => True) 5 w 1 A k (u8s raw)) (hkc : k ≤ c) (h : DiskAt w p m n cap L) (hno : getF L [111, 47] = none) (hg : getF L (oname (sumL raw)) = none)
  (h0 : 0 < raw.length) (hr : raw.length ≤ 1600000) (hD : DecOk raw) (hcap : cap ≤ 4000000000000) (hroom : (costs L : Int) + needP raw.length ≤ cap) (hn : n + 100000 < maxLen) :
  Calls Tryz.prog 106 #[.pointer (some ⟨p, 0, none⟩), .slice A k c] w fun e w' => e = .returned (.tuple #[S (sumL raw), I 0]) ∧ (∃ hd n' pr, n' ≤ n + 100000 ∧ DiskAt w' p m n' cap (putF (dropF L (shName (oname (sumL raw)))) (oname (sumL raw)) hd pr) ∧ Pressed raw pr ∧ 5 * pr.length ≤ 6 * raw.length + 40) ∧ Fr (fun j => j = p ∨ j = m) w w' := by
 have hk : raw.length = k := u8s_len hA.sl
 have hk1 : k ≤ 1600000 := by omega
 obtain ⟨id, hid⟩ : ∃ id, id = sumL raw := ⟨_, rfl⟩
 have hl : id.length = 32 := by rw [hid]; exact sumL_len raw
 have C0 := Lib.hid (sum_any w A k c raw hA (by omega))
 rw [← hid] at C0 hg ⊢
 have C1 := Lib.hid (fun V (hV : Below w.heap.size w V) => lright_any V p m n cap L id (h.step hV) hno (by omega))
 rw [show decide (id.length = 32) = true from decide_eq_true hl] at C1
 have C2 := Lib.hid (fun V (hV : Below w.heap.size w V) => lget_none V p m n cap L id (h.step hV) hno hl hg)
 have C3 := Lib.hid (fun V => loname_any id V (by omega))
 have C4 := Lib.hid (fun V (hV : Below w.heap.size w V) => press_any A k c raw V (hA.sl.below hV) hkc (by omega) (by omega))
 have CD := Lib.hid (fun V (hV : Below w.heap.size w V) => hD V A k c (hA.sl.below hV) hkc)
 have C5 : Hid (∀ V, Below w.heap.size w V → ∀ (g off n' c' : Nat) (pr : List UInt8), SlT (fun _ => True) 5 V 1 (some ⟨g, off, none⟩) n' (u8s pr) → n' ≤ c' → c' ≤ maxLen → 5 * pr.length ≤ 6 * raw.length + 40 → 0 < n' → Calls Tryz.prog 152 #[.pointer (some ⟨p, 0, none⟩), S (oname id), .slice (some ⟨g, off, none⟩) n' c'] V fun e w' => e = .returned (I 0) ∧ (∃ hd n2, n2 ≤ n + 100000 ∧ DiskAt w' p m n2 cap (putF (dropF L (shName (oname id))) (oname id) hd pr)) ∧ Fr (fun j => j = p ∨ j = m) V w') := Lib.hid (fun V hV g off n' c' pr h1 h2 h3 h4 h5 => by
  have hl1 : pr.length = n' := u8s_len h1.sl
  have hcs := costs_drop_le L (shName (oname id)) h.keys
  have hol := oname_len id
  have hnp : needP raw.length = 100 + 6 * raw.length / 5 := rfl
  refine (save_good V p m n cap L (oname id) g off n' c' pr (h.step hV) h1 h5 (by omega) h2 h3 (oname_sh hl) (by intro e; have := congrArg List.length e; rw [hol] at this; simp at this) (oname_suffix id) hcap (by omega) hn).mono ?_
  rintro e w' (⟨_, hlt, _⟩ | ⟨rfl, _, hd, n2, h6, h7, h8⟩)
  ·omega
  ·exact ⟨rfl, ⟨hd, n2, h6, h7⟩, h8⟩)
 clear hA h hno hg hid hD hroom hl
 go_enter Tryz.func106, Tryz.ntmps106
 go_wp2_with fail
 refine C0.out.mono ?_
 rintro e w1 ⟨rfl, b1⟩
 have B1 := Lib.hid b1
 clear b1 C0
 go_wp2_with fail
 refine (CD.out w1 B1.out).mono ?_
 rintro e w2 ⟨⟨ok, dA, dn, dc, eA, en, ec, y, rfl⟩, b2⟩
 obtain ⟨w3, hw3⟩ : ∃ w3, w3 = w2.alloc (.cells (objV ok dA dn dc eA en ec y) 96) := ⟨_, rfl⟩
 have b3 : Below w2.heap.size w2 w3 := by rw [hw3]; exact balloc (Below.refl _ _) _
 have B3 := Lib.hid (bstep (bstep B1.out b2) b3)
 clear b2 b3 CD
 go_wp2_with fail
 rw [← hw3]
 clear hw3
 refine (C1.out w3 B3.out).mono ?_
 rintro e w4 ⟨rfl, b4⟩
 have B4 := Lib.hid (bstep B3.out b4)
 clear b4 C1
 go_wp2_with fail
 refine (C2.out w4 B4.out).mono ?_
 rintro e w5 ⟨rfl, b5⟩
 have B5 := Lib.hid (bstep B4.out b5)
 clear b5 C2
 go_wp2_with fail
 refine (C3.out w5).mono ?_
 rintro e w6 ⟨rfl, b6⟩
 have B6 := Lib.hid (bstep B5.out b6)
 clear b6 C3
 go_wp2_with fail
 refine (C4.out w6 B6.out).mono ?_
 rintro e w7 ⟨⟨A7, n7, c7, pr, rfl, hS7, h71, h72, hP, hpl⟩, b7⟩
 have B7 := Lib.hid (bstep B6.out b7)
 have hp0 : 0 < n7 := by
  have e1 : pr.length = n7 := u8s_len hS7.sl
  obtain ⟨P, e2, _⟩ := hP
  have e3 := putNum_len_pos raw.length
  rw [e2, List.length_append] at e1
  omega
 obtain ⟨g7, o7, _, _, rfl, _, _⟩ := hS7.2 hp0
 have CS := Lib.hid (C5.out w7 B7.out g7 o7 n7 c7 pr hS7 h71 h72 hpl hp0)
 have HP := Lib.hid hP
 have Hpl := Lib.hid hpl
 clear hS7 h71 h72 hP hpl b7 C4 C5 hp0
 go_wp2_with fail
 refine CS.out.mono ?_
 rintro e w8 ⟨rfl, ⟨hd, n2, h6, h7⟩, hf8⟩
 have H8 : Hid ((∃ hd n' pr, n' ≤ n + 100000 ∧ DiskAt w8 p m n' cap (putF (dropF L (shName (oname id))) (oname id) hd pr) ∧ Pressed raw pr ∧ 5 * pr.length ≤ 6 * raw.length + 40) ∧ Fr (fun j => j = p ∨ j = m) w w8) := Lib.hid ⟨⟨hd, n2, pr, h6, h7, HP.out, Hpl.out⟩, (Fr.of_below B7.out).trans hf8⟩
 clear h6 h7 hf8 CS
 go_wp2
 go_ret2
 exact ⟨rfl, H8.out⟩
structure Objs (L : List DF) (R : List (List UInt8)) : Prop where
 files : ∀ x ∈ L, ∃ raw ∈ R, x.1 = oname (sumL raw) ∧ Pressed raw x.2.2 ∧ 5 * x.2.2.length ≤ 6 * raw.length + 40
 there : ∀ raw ∈ R, oname (sumL raw) ∈ L.map (·.1)
 apart : ∀ a ∈ R, ∀ b ∈ R, sumL a = sumL b → a = b
 fine : ∀ raw ∈ R, 0 < raw.length ∧ raw.length ≤ 1600000 ∧ DecOk raw
def getObj (R : List (List UInt8)) (id : List UInt8) : Option (List UInt8) := R.find? fun r => decide (sumL r = id)
theorem getObj_mem {R : List (List UInt8)} {id raw : List UInt8} (h : getObj R id = some raw) : raw ∈ R ∧ sumL raw = id := ⟨List.mem_of_find?_eq_some h, by simpa using List.find?_some h⟩
theorem getObj_none {R : List (List UInt8)} {id : List UInt8} (h : getObj R id = none) : ∀ raw ∈ R, sumL raw ≠ id := fun raw hr e => by
 have := List.find?_eq_none.1 h raw hr
 simp [e] at this
section
variable {L : List DF} {R : List (List UInt8)}
theorem Objs.nil_ : Objs [] [] := ⟨(fun _ h => by cases h), (fun _ h => by cases h), (fun _ h => by cases h), (fun _ h => by cases h)⟩
theorem Objs.len (h : Objs L R) : ∀ x ∈ L, x.1.length = 66 := fun x hx => by
 obtain ⟨raw, _, e, _⟩ := h.files x hx
 rw [e, oname_len, sumL_len]
theorem Objs.no (h : Objs L R) {s : List UInt8} (hs : s.length ≠ 66) : getF L s = none := getF_none.2 fun hm => by
 obtain ⟨x, hx, rfl⟩ := List.mem_map.1 hm
 exact hs (h.len x hx)
theorem Objs.none_ (h : Objs L R) {id : List UInt8} (hg : getObj R id = none) : getF L (oname id) = none := getF_none.2 fun hm => by
 obtain ⟨x, hx, e⟩ := List.mem_map.1 hm
 obtain ⟨raw, hr, e2, _⟩ := h.files x hx
 exact getObj_none hg raw hr (oname_inj (e2.symm.trans e))
theorem Objs.some_ (h : Objs L R) {raw : List UInt8} (hr : raw ∈ R) : ∃ x, getF L (oname (sumL raw)) = some x ∧ Pressed raw x.2.2 ∧ 5 * x.2.2.length ≤ 6 * raw.length + 40 := by
 rcases hg : getF L (oname (sumL raw)) with _ | x
 ·exact absurd (h.there raw hr) (getF_none.1 hg)
 ·obtain ⟨hx, e⟩ := getF_mem hg
  obtain ⟨raw', hr', e2, h3, h4⟩ := h.files x hx
  obtain rfl : raw' = raw := h.apart raw' hr' raw hr (oname_inj (e2.symm.trans e))
  exact ⟨x, rfl, h3, h4⟩
theorem Objs.dropSh (h : Objs L R) {id : List UInt8} (hid : id.length = 32) : dropF L (shName (oname id)) = L := by
 unfold dropF
 rw [List.filter_eq_self]
 intro x hx
 have h1 := h.len x hx
 have : x.1 ≠ shName (oname id) := fun e => by
  have h2 := congrArg List.length e
  unfold shName at h2
  rw [List.length_append, oname_len, h1, hid] at h2
  simp at h2
 simp [this]
theorem Objs.put (h : Objs L R) {raw pr : List UInt8} (hd : Hd) (hg : getObj R (sumL raw) = none) (hP : Pressed raw pr) (hl : 5 * pr.length ≤ 6 * raw.length + 40) (hf : 0 < raw.length ∧ raw.length ≤ 1600000 ∧ DecOk raw) :
  Objs (putF (dropF L (shName (oname (sumL raw)))) (oname (sumL raw)) hd pr) (raw :: R) := by
 rw [h.dropSh (sumL_len raw)]
 have hno := h.none_ hg
 have hdr : dropF L (oname (sumL raw)) = L := by
  unfold dropF
  rw [List.filter_eq_self]
  intro x hx
  have : x.1 ≠ oname (sumL raw) := fun e => getF_none.1 hno (e ▸ List.mem_map_of_mem hx)
  simp [this]
 unfold putF
 rw [hdr]
 refine ⟨fun x hx => ?_, fun r hr => ?_, fun a ha b hb e => ?_, fun r hr => ?_⟩
 ·rcases List.mem_cons.1 hx with rfl | hx
  ·exact ⟨raw, List.mem_cons_self, rfl, hP, hl⟩
  ·obtain ⟨r, hr, e⟩ := h.files x hx
   exact ⟨r, List.mem_cons_of_mem _ hr, e⟩
 ·rcases List.mem_cons.1 hr with rfl | hr
  ·exact List.mem_cons_self
  ·exact List.mem_cons_of_mem _ (h.there r hr)
 ·rcases List.mem_cons.1 ha with ea | ha'
  ·rcases List.mem_cons.1 hb with eb | hb'
   ·rw [ea, eb]
   ·rw [ea] at e
    exact absurd e.symm (getObj_none hg b hb')
  ·rcases List.mem_cons.1 hb with eb | hb'
   ·rw [eb] at e
    exact absurd e (getObj_none hg a ha')
   ·exact h.apart a ha' b hb' e
 ·rcases List.mem_cons.1 hr with rfl | hr
  ·exact hf
  ·exact h.fine r hr
end
theorem StoreAt.step {w w' : World} {q p pk : Nat} (h : StoreAt w q p pk) (hb : Below w.heap.size w w') : StoreAt w' q p pk := ⟨h.blk.step hb, h.packs.step hb⟩
set_option maxHeartbeats 2000000 in
theorem smade_any (w : World) (q p pk : Nat) (h : StoreAt w q p pk) :
  Calls Tryz.prog 104 #[.pointer (some ⟨q, 0, none⟩)] w fun e w' => e = .returned (.bool true) ∧ w' = w := by
 have rg := h.blk.cell
 clear h
 go_enter Tryz.func104, Tryz.ntmps104
 go_wp2
 go_ret
 exact ⟨rfl, rfl⟩
def getS (R : List (List UInt8)) (id : List UInt8) : Option (List UInt8) := if id.length = 32 then getObj R id else none
def getZ (id : List UInt8) : Int := if id.length = 32 then 6 else 1
set_option maxRecDepth 100000 in
set_option maxHeartbeats 8000000 in
theorem sget_any (w : World) (q p pk m n : Nat) (cap : Int) (L : List DF) (R : List (List UInt8)) (id : List UInt8) (hS : StoreAt w q p pk) (h : DiskAt w p m n cap L) (hO : Objs L R) (hl : id.length ≤ 9000000000000000000) :
  Calls Tryz.prog 93 #[.pointer (some ⟨q, 0, none⟩), S id] w (RetG w (getS R id) (getZ id)) := by
 have HS := Lib.hid hS
 have C1 := Lib.hid (smade_any w q p pk hS)
 have rg := hS.blk.cell
 have rp := hS.packs.cell
 have hno : getF L [111, 47] = none := hO.no (by decide)
 by_cases h32 : id.length = 32
 ·rcases hg : getObj R id with _ | raw
  ·have e1 : getS R id = none := by unfold getS; rw [if_pos h32, hg]
   have e2 : getZ id = 6 := by unfold getZ; rw [if_pos h32]
   rw [e1, e2]
   have C2 := Lib.hid (lget_none w p m n cap L id h hno h32 (hO.none_ hg))
   clear h hno hO hg e1 e2 h32 hl hS
   go_enter Tryz.func93, Tryz.ntmps93
   go_wp2_with fail
   refine C1.out.mono ?_
   rintro e w1 ⟨rfl, hw1⟩
   have hw2 := hw1.symm
   subst hw2
   go_wp2_with fail
   refine C2.out.mono ?_
   rintro e w5 ⟨rfl, b5⟩
   have B5 := Lib.hid b5
   have rg5 := (HS.out.step b5).blk.cell
   have rp5 := (HS.out.step b5).packs.cell
   clear rg rp b5 C1 C2
   go_wp2
   go_loopw [34] (fun iv wr => iv = .int .i64 0 ∧ wr = w5) (fun _ _ => 0)
   case atStart => exact ⟨rfl, rfl⟩
   case round =>
    obtain ⟨rfl, rfl⟩ := hrel
    go_wp2
    go_ret2
    exact ⟨rfl, B5.out⟩
  ·obtain ⟨hr, he⟩ := getObj_mem hg
   have e1 : getS R id = some raw := by unfold getS; rw [if_pos h32, hg]
   rw [e1]
   obtain ⟨x, h1, h2, h3⟩ := hO.some_ hr
   obtain ⟨f1, f2, f3⟩ := hO.fine raw hr
   subst he
   have C2 := Lib.hid (lget_some w p m n cap L raw x h hno h1 h2 (by omega) (by omega) f3)
   clear h hno hO hg e1 h32 hl hS h1 h2 h3 f1 f2 f3 hr
   obtain ⟨id, hid⟩ : ∃ id, id = sumL raw := ⟨_, rfl⟩
   rw [← hid] at C2 ⊢
   clear hid
   go_enter Tryz.func93, Tryz.ntmps93
   go_wp2_with fail
   refine C1.out.mono ?_
   rintro e w1 ⟨rfl, hw1⟩
   have hw2 := hw1.symm
   subst hw2
   go_wp2_with fail
   refine C2.out.mono ?_
   rintro e w5 ⟨⟨A5, n5, c5, rfl, h5, h6, h7⟩, b5⟩
   have H5 : Hid (RetG w (some raw) (getZ id) (.returned (.tuple #[.slice A5 n5 c5, I 0])) w5) := Lib.hid ⟨⟨A5, n5, c5, rfl, h5, h6, h7⟩, b5⟩
   clear h5 h6 h7 b5 C1 C2
   go_wp2
   go_ret2
   exact H5.out
 ·have e1 : getS R id = none := by unfold getS; rw [if_neg h32]
  have e2 : getZ id = 1 := by unfold getZ; rw [if_neg h32]
  rw [e1, e2]
  have C2 := Lib.hid (lget_bad w p m n cap L id h hno hl h32)
  clear h hno hO e1 e2 h32 hl hS
  go_enter Tryz.func93, Tryz.ntmps93
  go_wp2_with fail
  refine C1.out.mono ?_
  rintro e w1 ⟨rfl, hw1⟩
  have hw2 := hw1.symm
  subst hw2
  go_wp2_with fail
  refine C2.out.mono ?_
  rintro e w5 ⟨rfl, b5⟩
  have B5 := Lib.hid b5
  clear b5 C1 C2
  go_wp2
  go_ret2
  exact ⟨rfl, B5.out⟩
set_option maxHeartbeats 1000000 in
theorem bytesEq_any (A A' : Option Addr) (n n' c c' : Nat) (l l' : List UInt8) (w : World) (hA : Sl w 1 A n (u8s l)) (hA' : Sl w 1 A' n' (u8s l')) :
  Calls Tryz.prog 105 #[.slice A n c, .slice A' n' c'] w fun e w' => e = .returned (.bool (decide (l = l'))) ∧ w' = w := by
 have h1 := run_conv_str (P := Tryz.prog) w 38 9 5 A n c l Tryz.underlying38 Tryz.underlying5 Tryz.underlying9 hA
 have h2 := run_conv_str (P := Tryz.prog) w 38 9 5 A' n' c' l' Tryz.underlying38 Tryz.underlying5 Tryz.underlying9 hA'
 go_enter Tryz.func105, Tryz.ntmps105
 go_wp2
 go_ret
 refine ⟨ret_bool ?_, rfl⟩
 rw [Bool.eq_iff_iff]
 simp
theorem StoreAt.fr {w w' : World} {q p pk m n : Nat} {cap : Int} {L : List DF} (h : StoreAt w q p pk) (hD : DiskAt w p m n cap L) (hf : Fr (fun j => j = p ∨ j = m) w w') : StoreAt w' q p pk := by
 obtain ⟨ops, hB⟩ := hD.blk
 exact ⟨hf.blk h.blk (fun e => by
  rcases e with e | e
  ·exact blk_ne h.blk hB (by decide) e
  ·exact hD.map.ne_blk h.blk e.symm), hf.blk h.packs (fun e => by
  rcases e with e | e
  ·exact blk_ne h.packs hB (by decide) e
  ·exact hD.map.ne_blk h.packs e.symm)⟩
def putZ (R : List (List UInt8)) (raw : List UInt8) : Int := match getObj R (sumL raw) with
 | none => 0
 | some r => if r = raw then 0 else 7
def putR (R : List (List UInt8)) (raw : List UInt8) : List (List UInt8) := match getObj R (sumL raw) with
 | none => raw :: R
 | some _ => R
def RetPutX (p m n : Nat) (cap : Int) (L : List DF) (R : List (List UInt8)) (raw : List UInt8) (w : World) (e : Ending) (w' : World) : Prop :=
 e = .returned (.tuple #[S (if putZ R raw = 0 then sumL raw else []), I (putZ R raw)]) ∧ (∃ n' L', n' ≤ n + 100000 ∧ DiskAt w' p m n' cap L' ∧ Objs L' (putR R raw) ∧ costs L' ≤ costs L + needP raw.length) ∧ Fr (fun j => j = p ∨ j = m) w w'
set_option maxRecDepth 100000 in
set_option maxHeartbeats 8000000 in
theorem sput_room (w : World) (q p pk m n : Nat) (cap : Int) (L : List DF) (R : List (List UInt8)) (raw : List UInt8) (A : Option Addr) (k c : Nat) (hS : StoreAt w q p pk) (h : DiskAt w p m n cap L) (hO : Objs L R) (hA : SlT (fun _ => True) 5 w 1 A k (u8s raw)) (hkc : k ≤ c)
  (hfine : 0 < raw.length ∧ raw.length ≤ 1600000 ∧ DecOk raw) (hcap : cap ≤ 4000000000000) (hroom : (costs L : Int) + needP raw.length ≤ cap) (hn : n + 100000 < maxLen) :
  Calls Tryz.prog 58 #[.pointer (some ⟨q, 0, none⟩), .slice A k c] w (RetPutX p m n cap L R raw w) := by
 obtain ⟨h0, hr, hD⟩ := hfine
 have hk : raw.length = k := u8s_len hA.sl
 obtain ⟨id, hid⟩ : ∃ id, id = sumL raw := ⟨_, rfl⟩
 have hl : id.length = 32 := by rw [hid]; exact sumL_len raw
 have HS := Lib.hid hS
 have HD0 := Lib.hid h
 have HO := Lib.hid hO
 have HA := Lib.hid hA
 have Hid9 := Lib.hid hid
 have C0 := Lib.hid (fun V (hV : Below w.heap.size w V) => sum_any V A k c raw (hA.step hV) (by omega))
 rw [← hid] at C0
 have CD := Lib.hid (hD w A k c hA.sl hkc)
 have CM := Lib.hid (fun V (hV : Below w.heap.size w V) => smade_any V q p pk (hS.step hV))
 have CG := Lib.hid (fun V (hV : Below w.heap.size w V) => sget_any V q p pk m n cap L R id (hS.step hV) (h.step hV) hO (by omega))
 have CL : Hid (getObj R id = none → ∀ V, Below w.heap.size w V → Calls Tryz.prog 106 #[.pointer (some ⟨p, 0, none⟩), .slice A k c] V _) := Lib.hid (fun hg V (hV : Below w.heap.size w V) => lput_any V p m n cap L raw A k c (hA.step hV) hkc (h.step hV) (hO.no (by decide)) (by rw [← hid]; exact hO.none_ hg) h0 hr hD hcap hroom hn)
 have Hf : Hid (0 < raw.length ∧ raw.length ≤ 1600000 ∧ DecOk raw) := Lib.hid ⟨h0, hr, hD⟩
 have Hgs : Hid (getS R id = getObj R id ∧ getZ id = 6) := Lib.hid ⟨by unfold getS; rw [if_pos hl], by unfold getZ; rw [if_pos hl]⟩
 clear hS h hO hA hD hid hl
 go_enter Tryz.func58, Tryz.ntmps58
 go_wp2_with fail
 refine CD.out.mono ?_
 rintro e w2 ⟨⟨ok, dA, dn, dc, eA, en, ec, y, rfl⟩, b2⟩
 obtain ⟨w3, hw3⟩ : ∃ w3, w3 = w2.alloc (.cells (objV ok dA dn dc eA en ec y) 96) := ⟨_, rfl⟩
 have b3 : Below w2.heap.size w2 w3 := by rw [hw3]; exact balloc (Below.refl _ _) _
 have B3 := Lib.hid (bstep b2 b3)
 clear b2 b3 CD
 go_wp2_with fail
 rw [← hw3]
 clear hw3
 refine (CM.out w3 B3.out).mono ?_
 rintro e w4 ⟨rfl, hw4⟩
 have hw5 := hw4.symm
 subst hw5
 go_wp2_with fail
 refine (C0.out w3 B3.out).mono ?_
 rintro e w5 ⟨rfl, b5⟩
 have B5 := Lib.hid (bstep B3.out b5)
 clear b5 C0 CM
 go_wp2_with fail
 refine (CG.out w5 B5.out).mono ?_
 rintro e w6 hret
 rw [Hgs.out.1, Hgs.out.2] at hret
 rcases hg : getObj R id with _ | r
 ·rw [hg] at hret
  obtain ⟨rfl, b6⟩ := hret
  have B6 := Lib.hid (bstep B5.out b6)
  have CP := Lib.hid (CL.out hg w6 B6.out)
  have rg := (HS.out.step B6.out).blk.cell
  have Hg := Lib.hid hg
  clear hg b6 CG CL
  go_wp2_with fail
  refine CP.out.mono ?_
  rintro e w7 ⟨rfl, ⟨hd, n', pr, h1, h2, h3, h4⟩, h5⟩
  have H7 : Hid (RetPutX p m n cap L R raw w (.returned (.tuple #[S (sumL raw), I 0])) w7) := Lib.hid (by
   have hz : putZ R raw = 0 := by unfold putZ; rw [← Hid9.out, Hg.out]
   have hR : putR R raw = raw :: R := by unfold putR; rw [← Hid9.out, Hg.out]
   refine ⟨by rw [hz, if_pos rfl], ⟨n', _, h1, h2, ?_, ?_⟩, (Fr.of_below B6.out).trans h5⟩
   ·rw [hR]
    exact HO.out.put hd (by rw [← Hid9.out]; exact Hg.out) h3 h4 Hf.out
   ·rw [HO.out.dropSh (sumL_len raw)]
    unfold putF
    have hcd := costs_drop_le L (oname (sumL raw)) HD0.out.keys
    have hol := oname_len (sumL raw)
    have hsl := sumL_len raw
    have hnp : needP raw.length = 100 + 6 * raw.length / 5 := rfl
    show cost1 _ + costs _ ≤ _
    unfold cost1
    simp only
    omega)
  clear h1 h2 h3 h4 h5 CP
  go_wp2
  go_ret2
  exact H7.out
 ·rw [hg] at hret
  obtain ⟨⟨A6, n6, c6, rfl, h6, h7, h8⟩, b6⟩ := hret
  have B6 := Lib.hid (bstep B5.out b6)
  have CE := Lib.hid (bytesEq_any A6 A n6 k c6 c r raw w6 h6 (HA.out.sl.below B6.out))
  have Hg := Lib.hid hg
  have HR : Hid (∀ w7, Below w.heap.size w w7 → RetPutX p m n cap L R raw w (.returned (.tuple #[S (if putZ R raw = 0 then sumL raw else []), I (putZ R raw)])) w7) := Lib.hid (fun w7 b7 => by
   have hR : putR R raw = R := by unfold putR; rw [← Hid9.out, Hg.out]
   exact ⟨rfl, ⟨n, L, by omega, HD0.out.step b7, by rw [hR]; exact HO.out, by omega⟩, Fr.of_below b7⟩)
  have hways : (decide (r = raw) = true ∧ putZ R raw = 0) ∨ (decide (r = raw) = false ∧ putZ R raw = 7) := by
   by_cases he : r = raw
   ·exact .inl ⟨decide_eq_true he, by unfold putZ; rw [← Hid9.out, Hg.out]; exact if_pos he⟩
   ·exact .inr ⟨decide_eq_false he, by unfold putZ; rw [← Hid9.out, Hg.out]; exact if_neg he⟩
  clear hg h6 h7 h8 b6 CG CL
  rcases hways with ⟨d1, d2⟩ | ⟨d1, d2⟩
  ·rw [d1] at CE
   rw [d2] at HR
   have D2 := Lib.hid d2
   clear d1 d2
   go_wp2_with fail
   refine CE.out.mono ?_
   rintro e w7 ⟨rfl, hw7⟩
   have hw8 := hw7.symm
   subst hw8
   go_wp2
   go_ret2
   have h9 := HR.out w6 B6.out
   rw [if_pos trivial, ← Hid9.out] at h9
   exact h9
  ·rw [d1] at CE
   rw [d2] at HR
   clear d1 d2
   go_wp2_with fail
   refine CE.out.mono ?_
   rintro e w7 ⟨rfl, hw7⟩
   have hw8 := hw7.symm
   subst hw8
   go_wp2
   go_ret2
   exact HR.out w6 B6.out
end Go.Proofs.YtcednfmkiaelnaaGreatDoor

/-
  Texts merged: PairTwo, PairAdd, PairBoth, OpenBlobs. What each law says and asks stands at its head.
-/
import Derived.Test.YtphnfcgdpdimbaaGreatDoorRKitRs
import Derived.Test.YtphnfcgdpdimbaaGreatDoorRKitM
import Derived.Test.YtphnfcgdpdimbaaGreatDoorRKitW
import Derived.Test.YtphnfcgdpdimbaaGreatDoorRKitOw
import Derived.Test.YtphnfcgdpdimbaaGreatDoorRKitX
namespace Go.Proofs.YtphnfcgdpdimbaaGreatDoor
open Go.RowKit
structure TwoS (w : World) (q p pk m n q2 r : Nat) (cap : Int) (R : List (List UInt8)) (u z : Nat) : Prop where
 sp : StoreAt w q p pk
 dp : ∃ L, DiskAt w p m n cap L ∧ Objs L R ∧ costs L ≤ u
 sr : RStAt w q2 r
 dr : ∃ l, RdAt w r cap l ∧ RObj l R ∧ costs l ≤ z
section
variable {w w' : World} {q p pk m n n' q2 r u z : Nat} {cap : Int} {R : List (List UInt8)} {L L' l l' : List DF}
theorem TwoS.step (h : TwoS w q p pk m n q2 r cap R u z) (hb : Below w.heap.size w w') : TwoS w' q p pk m n q2 r cap R u z := by
 obtain ⟨L, h1, h2⟩ := h.dp
 obtain ⟨l, h3, h4⟩ := h.dr
 exact ⟨h.sp.step hb, ⟨L, h1.step hb, h2⟩, Blk.step h.sr hb, ⟨l, h3.step hb, h4⟩⟩
theorem two_mine (hD : DiskAt w p m n cap L) (hQ : RStAt w q2 r) (hR : RdAt w r cap l) (hf : Fr (fun j => j = p ∨ j = m) w w') : RStAt w' q2 r ∧ RdAt w' r cap l := by
 obtain ⟨ops, hp⟩ := hD.blk
 obtain ⟨A, n9, c9, done, hr, _⟩ := id hR
 refine ⟨hf.blk hQ (fun e => ?_), hR.fr_of hf (fun e => ?_) (fun k cs fr e => ?_)⟩
 ·rcases e with e | e
  ·exact blk_ne hQ hp (by decide) e
  ·exact hD.map.ne_blk hQ e.symm
 ·rcases e with e | e
  ·exact blk_ne hr hp (by decide) e
  ·exact hD.map.ne_blk hr e.symm
 ·rcases e with rfl | rfl
  ·exact ⟨Blk.type hp (by decide) cs fr, Blk.type hp (by decide) cs fr⟩
  ·exact ⟨hD.map.no_cells cs fr, hD.map.no_cells cs fr⟩
theorem two_theirs (hS : StoreAt w q p pk) (hD : DiskAt w p m n cap L) (hQ : RStAt w q2 r) (hR : RdAt w r cap l) (hf : Fr (fun j => j = r) w w') : StoreAt w' q p pk ∧ DiskAt w' p m n cap L ∧ RStAt w' q2 r := by
 obtain ⟨A, n9, c9, done, hr, _⟩ := id hR
 exact ⟨⟨hf.blk hS.blk (fun e => blk_ne hS.blk hr (by decide) e), hf.blk hS.packs (fun e => blk_ne hS.packs hr (by decide) e)⟩, disk_ref hD hR hf, hf.blk hQ (fun e => blk_ne hQ hr (by decide) e)⟩
end
def addR (R : List (List UInt8)) (d : List UInt8) : List (List UInt8) := if d.length ≤ 1048576 then putR R (1 :: d) else R
def addZ (R : List (List UInt8)) (d : List UInt8) : Int := if d.length ≤ 1048576 then putZ R (1 :: d) else 1
def addX (R : List (List UInt8)) (d : List UInt8) : List UInt8 := if addZ R d = 0 then sumL (1 :: d) else []
theorem stadd_any (w : World) (q p pk m n : Nat) (cap : Int) (L : List DF) (R : List (List UInt8)) (d : List UInt8) (A : Option Addr) (k c : Nat) (hS : StoreAt w q p pk) (h : DiskAt w p m n cap L) (hO : Objs L R) (hA : Sl w 1 A k (u8s d))
  (hcap : cap ≤ 4000000000000) (hroom : (costs L : Int) + 3000000 ≤ cap) (hn : n + 100000 < maxLen) :
  Calls Tryz.prog 54 #[.pointer (some ⟨q, 0, none⟩), .agg (blobA A k c)] w fun e w' => e = .returned (.tuple #[S (addX R d), I (addZ R d)]) ∧ (∃ n' L', n' ≤ n + 100000 ∧ DiskAt w' p m n' cap L' ∧ Objs L' (addR R d) ∧ costs L' ≤ costs L + 2500000) ∧ Fr (fun j => j = p ∨ j = m) w w' := by
 unfold addX addZ addR
 by_cases hd : d.length ≤ 1048576
 ·simp only [if_pos hd]
  exact sadd_blob w q p pk m n cap L R d A k c hS h hO hA hd hcap hroom hn
 ·simp only [if_neg hd]
  refine (sadd_no w q d A k c hA hd).mono ?_
  rintro e w' ⟨rfl, hb⟩
  exact ⟨rfl, ⟨n, L, by omega, h.step hb, hO, by omega⟩, Fr.of_below hb⟩
theorem rstadd_any (w : World) (q r : Nat) (cap : Int) (l : List DF) (R : List (List UInt8)) (d : List UInt8) (A : Option Addr) (k c : Nat) (hQ : RStAt w q r) (h : RdAt w r cap l) (hO : RObj l R) (hA : Sl w 1 A k (u8s d))
  (hcap : cap ≤ 1099511627776) (hcost : costs l ≤ 10000000) (hroom : (costs l : Int) + 3000000 ≤ cap) :
  Calls Tryz.prog 55 #[.pointer (some ⟨q, 0, none⟩), .agg (blobA A k c)] w fun e w' => (∃ v, e = .returned v) ∧ (∃ l', RdAt w' r cap l' ∧ RObj l' (addR R d) ∧ costs l' ≤ costs l + 2 * d.length + 202) ∧ Fr (fun j => j = r) w w' := by
 unfold addR
 by_cases hd : d.length ≤ 1048576
 ·rw [if_pos hd]
  refine (rsadd_blob w q r cap l R d A k c hQ h hO hA hd hcap hcost hroom).mono ?_
  rintro e w' ⟨rfl, ⟨l', h1, h2, h3⟩, h4⟩
  exact ⟨⟨_, rfl⟩, ⟨l', h1, h2, by rw [List.length_cons] at h3; omega⟩, h4⟩
 ·rw [if_neg hd]
  refine (rsadd_no w q d A k c hA hd).mono ?_
  rintro e w' ⟨rfl, hb⟩
  exact ⟨⟨_, rfl⟩, ⟨l, h.step hb, hO, by omega⟩, Fr.of_below hb⟩
def bothS (bs : List (List UInt8)) : Nat → List (List UInt8) × List (List UInt8)
 | 0 => ([], [])
 | i + 1 => (addR (bothS bs i).1 (bs.getD i []), (bothS bs i).2 ++ if addZ (bothS bs i).1 (bs.getD i []) = 0 then [sumL (1 :: bs.getD i [])] else [])
theorem both_blobs (bs : List (List UInt8)) : ∀ i, Blobs (bothS bs i).1
 | 0 => fun _ h => by cases h
 | i + 1 => by
  show Blobs (addR (bothS bs i).1 (bs.getD i []))
  unfold addR
  split
  ·next hd =>
   unfold putR
   split
   ·intro raw hr
    rcases List.mem_cons.1 hr with rfl | hr
    ·exact ⟨_, rfl, hd⟩
    ·exact both_blobs bs i raw hr
   ·exact both_blobs bs i
  ·exact both_blobs bs i
structure BlobIn where
 A : Option Addr
 n : Nat
 c : Nat
 l : List UInt8
abbrev BlobIn.v (b : BlobIn) : Value := .slice b.A b.n b.c
theorem own_no_map {w : World} {base sz n m : Nat} {e : TypeId} {v : Value} {xs : List Value} (h : w.ownsRow base e sz v n xs) (hm : ∀ cs fr, w.heap[m]? ≠ some (.cells cs e fr)) : v.ownBlock ≠ some m := fun hk => by
 rcases h.2 with ⟨h2, _⟩ | ⟨g, cap, cur, hv, hg, hh, _⟩
 ·rw [h2] at hk
  simp [Value.ownBlock] at hk
 ·subst hv
  have e9 : g = m := by simpa [Value.ownBlock] using hk
  subst e9
  exact hm _ _ hh
theorem TwoS.grow {w w' : World} {q p pk m n q2 r u z base k c : Nat} {cap : Int} {R : List (List UInt8)} {A : Option Addr} {xs : List Value} (h : TwoS w q p pk m n q2 r cap R u z) (ho : w.ownsRow base 9 1 (.slice A k c) k xs) (hf : Fr (fun j => (Value.slice A k c).ownBlock = some j) w w') : TwoS w' q p pk m n q2 r cap R u z := by
 obtain ⟨L, h1, h2⟩ := h.dp
 obtain ⟨l, h3, h4⟩ := h.dr
 obtain ⟨ops, hp⟩ := h1.blk
 obtain ⟨_, _, _, _, hr, _⟩ := id h3
 have k1 : KeepT 5 w w' := KeepT.of_fr hf (fun j cs fr e => own_type9 ho (by decide) e cs fr)
 refine ⟨⟨hf.blk h.sp.blk (fun e => own_no_blk ho h.sp.blk (by decide) e), hf.blk h.sp.packs (fun e => own_no_blk ho h.sp.packs (by decide) e)⟩, ⟨L, h1.keep (hf.block p h1.lt (fun e => own_no_blk ho hp (by decide) e)) (hf.block m h1.map.lt (fun e => own_no_map ho (fun cs fr => h1.map.no_cells cs fr) e)) k1, h2⟩, hf.blk h.sr (fun e => own_no_blk ho h.sr (by decide) e), ⟨l, h3.fr_of hf (fun e => own_no_blk ho hr (by decide) e) (fun j cs fr e => ⟨own_type9 ho (by decide) e cs fr, own_type9 ho (by decide) e cs fr⟩), h4⟩⟩
def capB : Int := 1099511627776
def lensB (bl : List (List UInt8)) (i : Nat) : Nat := ((bl.take i).map List.length).sum
theorem lensB_succ {bl : List (List UInt8)} {i : Nat} {d : List UInt8} (h : bl[i]? = some d) : lensB bl (i + 1) = lensB bl i + d.length := by
 unfold lensB
 rw [List.take_add_one, h, List.map_append, List.sum_append]
 simp
theorem lensB_le (bl : List (List UInt8)) (i : Nat) : lensB bl i ≤ (bl.map List.length).sum := by
 have h : (bl.map List.length).sum = ((bl.take i).map List.length).sum + ((bl.drop i).map List.length).sum := by rw [← List.sum_append, ← List.map_append, List.take_append_drop]
 unfold lensB
 omega
set_option maxRecDepth 100000 in
set_option maxHeartbeats 16000000 in
theorem both_any (A : Option Addr) (n c : Nat) (rs : List BlobIn) (w : World) (hA : Sl w 1 A n (rs.map BlobIn.v)) (hr : ∀ x ∈ rs, Sl w 1 x.A x.n (u8s x.l)) (_hn : n ≤ 2000000) (hsum : ((rs.map (·.l)).map List.length).sum ≤ 2000000) :
  Calls Tryz.prog 14 #[.slice A n c] w fun e w' => ∃ (q p pk m n' q2 r i k c' : Nat) (A' : Option Addr), e = .returned (.tuple #[.pointer (some ⟨q, 0, none⟩), .pointer (some ⟨q2, 0, none⟩), .slice A' k c']) ∧ TwoS w' q p pk m n' q2 r capB (bothS (rs.map (·.l)) i).1 30000000 10000000 ∧
   Ow w w' 9 1 A' k c' (strs (bothS (rs.map (·.l)) i).2) ∧ k ≤ 12 := by
 obtain ⟨i0, hi0, hz0, hz1, hz2⟩ := info_parts Tryz.infoStr
 have HA := Lib.hid hA
 have HR := Lib.hid hr
 have C1 := Lib.hid (dnew_ok 1099511627776 w (by omega) (by omega))
 have Hsum := Lib.hid hsum
 clear hA hr hsum
 obtain ⟨bl, hbl⟩ : ∃ bl, bl = rs.map (·.l) := ⟨_, rfl⟩
 have Hbl := Lib.hid hbl
 rw [← hbl] at Hsum ⊢
 clear hbl
 go_enter Tryz.func14, Tryz.ntmps14
 go_wp2_with fail
 refine C1.out.mono ?_
 rintro e w1 ⟨p, m, rfl, hp, hm, hD1, b1⟩
 have HD1 := Lib.hid hD1
 have Hpm := Lib.hid (And.intro hp hm)
 have B1 := Lib.hid b1
 have C2 := Lib.hid (sopen_any w1 p m 0 1099511627776 [] hD1 (by simp) (fun _ h => by cases h) rfl)
 clear hp hm hD1 b1 C1
 go_wp2_with fail
 refine C2.out.mono ?_
 rintro e w2 ⟨q, pk, rfl, _, _, hS2, b2⟩
 have HS2 := Lib.hid hS2
 have HD2 := Lib.hid (HD1.out.step b2)
 have B2 := Lib.hid (bstep B1.out b2)
 have C3 := Lib.hid (rdnew_ok 1099511627776 w2 (by omega) (by omega))
 clear hS2 b2 C2
 go_wp2_with fail
 refine C3.out.mono ?_
 rintro e w3 ⟨r, rfl, hr3, hR3, b3⟩
 have HR3 := Lib.hid hR3
 have HS3 := Lib.hid (HS2.out.step b3)
 have HD3 := Lib.hid (HD2.out.step b3)
 have B3 := Lib.hid (bstep B2.out b3)
 have Hr3 : Hid (w.heap.size ≤ r) := Lib.hid (Nat.le_trans B2.out.size hr3)
 have C4 := Lib.hid (rsopen_nil w3 r 1099511627776 hR3)
 clear hr3 hR3 b3 C3
 go_wp2_with fail
 refine C4.out.mono ?_
 rintro e w4 ⟨q2, rfl, hQ4, _, b4⟩
 have B4 := Lib.hid (bstep B3.out b4)
 have HT4 : Hid (TwoS w4 q p pk m 0 q2 r capB [] 0 0) := Lib.hid ⟨HS3.out.step b4, ⟨[], HD3.out.step b4, Objs.nil_, by simp [costs]⟩, hQ4, ⟨[], HR3.out.step b4, RObj.nil_, by simp [costs]⟩⟩
 clear hQ4 b4 C4
 go_wp2
 go_loopw [13, 14] (fun sv iv wr => ∃ (i k co n' : Nat) (Ao : Option Addr), sv = .slice Ao k co ∧ iv = .int .i64 i ∧ i ≤ n ∧ i ≤ 12 ∧ k ≤ i ∧ Hid (TwoS wr q p pk m n' q2 r capB (bothS bl i).1 (2500000 * i) (202 * i + 2 * lensB bl i)) ∧ Hid (n' ≤ 100000 * i) ∧ Hid (Ow w wr 9 1 Ao k co (strs (bothS bl i).2))) (fun _ iv _ => n - (intOf iv).toNat)
 case atStart => exact ⟨0, 0, 0, 0, none, rfl, rfl, Nat.zero_le _, by omega, Nat.le_refl _, HT4, Lib.hid (by omega), Lib.hid (Ow.nil_ B4.out)⟩
 case round =>
  obtain ⟨i, k, co, n', Ao, rfl, rfl, hi, hi12, hki, hT, hn', hO⟩ := hrel
  have hways : (decide (i < n) = true ∧ decide ((i : Int) < 12) = true) ∨ decide (i < n) = false ∨ (decide (i < n) = true ∧ decide ((i : Int) < 12) = false) := by
   cases decide (i < n) <;> cases decide ((i : Int) < 12) <;> simp
  rcases hways with ⟨d1, d2⟩ | d1 | ⟨d1, d2⟩
  ·have hlt : i < n := of_decide_eq_true d1
   have hlt12 : i < 12 := by have := of_decide_eq_true d2; omega
   obtain ⟨b, off, u, rfl, hu, hcell⟩ := (HA.out.below hO.out.2).at_ hlt
   rw [List.getElem?_map, Option.map_eq_some_iff] at hu
   obtain ⟨x, hx, rfl⟩ := hu
   have hxl : bl[i]? = some x.l := by rw [Hbl.out, List.getElem?_map, hx]; rfl
   have hX : Sl w 1 x.A x.n (u8s x.l) := HR.out x (List.mem_of_getElem? hx)
   have hgd : bl.getD i [] = x.l := by rw [List.getD_eq_getElem?_getD, hxl]; rfl
   have HS1 := Lib.hid (lensB_succ hxl)
   have HLe := Lib.hid (lensB_le bl i)
   obtain ⟨L, hD, hOb, hcL⟩ := hT.out.dp
   obtain ⟨l, hRd, hRO, hcl⟩ := hT.out.dr
   obtain ⟨ops9, hp9⟩ := hD.blk
   obtain ⟨_, _, _, _, hr9, _⟩ := id hRd
   obtain ⟨o, ho⟩ : ∃ o, o = wr.heap.size := ⟨_, rfl⟩
   obtain ⟨w5, hw5⟩ : ∃ w5, w5 = wr.alloc (.cells (blobA x.A x.n x.c) 110) := ⟨_, rfl⟩
   have b5 : Below wr.heap.size wr w5 := by rw [hw5]; exact balloc (Below.refl _ _) _
   have hB5 : Blk w5 o 110 (blobA x.A x.n x.c) := by rw [hw5, ho]; exact Blk.new wr _ _
   have H5 := Lib.hid (hT.out.step b5)
   have HO5 := Lib.hid (hO.out.keep b5)
   have HB5 := Lib.hid hB5
   have HDk : Hid (DiskAt w5 p m n' capB L ∧ RdAt w5 r capB l ∧ RObj l (bothS bl i).1) := Lib.hid ⟨hD.step b5, hRd.step b5, hRO⟩
   have CA := Lib.hid (stadd_any w5 q p pk m n' capB L (bothS bl i).1 x.l x.A x.n x.c H5.out.sp (hD.step b5) hOb (hX.below HO5.out.2) (by unfold capB; omega) (by unfold capB; omega) (by have := hn'.out; simp only [maxLen]; omega))
   have Hcl := Lib.hid hcl
   have HcL := Lib.hid hcL
   have Hgd := Lib.hid hgd
   have HXx := Lib.hid hX
   have Hw5 := Lib.hid hw5
   have Ho := Lib.hid ho
   clear hx hxl hX hgd hD hOb hcL hRd hRO hcl hp9 hr9 b5 hB5 hw5 ho
   go_wp2_with fail
   rw [← Hw5.out, ← Ho.out]
   refine CA.out.mono ?_
   rintro e w6 ⟨rfl, ⟨n6, L6, hn6, hD6, hO6, hc6⟩, f6⟩
   have hop : ¬ (o = p ∨ o = m) := by
    obtain ⟨ops9, hp9⟩ := HDk.out.1.blk
    intro e
    rcases e with e | e
    ·exact blk_ne HB5.out hp9 (by decide) e
    ·exact HDk.out.1.map.ne_blk HB5.out e.symm
   have HB6 := Lib.hid (f6.blk HB5.out hop)
   obtain ⟨hQ6, hR6⟩ := two_mine HDk.out.1 H5.out.sr HDk.out.2.1 f6
   have hS6 := H5.out.sp.fr HDk.out.1 f6
   have hw6 : Below w.heap.size w w6 := HO5.out.2.trans (f6.below HO5.out.size (fun j e => by
    rcases e with e | e
    ·rw [e]; exact Hpm.out.1
    ·rw [e]; exact Hpm.out.2))
   have ho6 : w6.ownsRow w.heap.size 9 1 (.slice Ao k co) k (strs (bothS bl i).2) := own_block HO5.out.1 (fun j hj => f6.block j (HO5.out.1.lt j hj).2 (fun e => by
    obtain ⟨ops9, hp9⟩ := HDk.out.1.blk
    rcases e with e | e
    ·rw [e] at hj
     exact own_no_blk HO5.out.1 hp9 (by decide) hj
    ·rw [e] at hj
     exact own_no_map HO5.out.1 (fun cs fr => HDk.out.1.map.no_cells cs fr) hj))
   have HO6 : Hid (Ow w w6 9 1 Ao k co (strs (bothS bl i).2)) := Lib.hid ⟨ho6, hw6⟩
   have CR := Lib.hid (rstadd_any w6 q2 r capB l (bothS bl i).1 x.l x.A x.n x.c hQ6 hR6 HDk.out.2.2 (HXx.out.below hw6) (by unfold capB; omega) (by have := Hcl.out; have := HLe.out; have := Hsum.out; omega) (by have := Hcl.out; have := HLe.out; have := Hsum.out; unfold capB; omega))
   have HK6 : Hid (StoreAt w6 q p pk ∧ DiskAt w6 p m n6 capB L6 ∧ Objs L6 (addR (bothS bl i).1 x.l) ∧ RStAt w6 q2 r ∧ RdAt w6 r capB l ∧ n6 ≤ n' + 100000 ∧ costs L6 ≤ costs L + 2500000) := Lib.hid ⟨hS6, hD6, hO6, hQ6, hR6, hn6, hc6⟩
   have y6 := HB6.out.cell
   clear hop hQ6 hR6 hS6 hw6 ho6 hn6 hD6 hO6 hc6 f6 CA
   go_wp2_with fail
   refine CR.out.mono ?_
   rintro e w7 ⟨⟨v9, rfl⟩, ⟨l7, hR7, hO7, hc7⟩, f7⟩
   obtain ⟨hS7, hD7, hQ7⟩ := two_theirs HK6.out.1 HK6.out.2.1 HK6.out.2.2.2.1 HK6.out.2.2.2.2.1 f7
   have hw7 : Below w.heap.size w w7 := HO6.out.2.trans (f7.below HO6.out.size (fun j e => by rw [e]; exact Hr3.out))
   have ho7 : w7.ownsRow w.heap.size 9 1 (.slice Ao k co) k (strs (bothS bl i).2) := own_block HO6.out.1 (fun j hj => f7.block j (HO6.out.1.lt j hj).2 (fun e => by
    obtain ⟨_, _, _, _, hr9, _⟩ := id HK6.out.2.2.2.2.1
    rw [e] at hj
    exact own_no_blk HO6.out.1 hr9 (by decide) hj))
   have HO7 : Hid (Ow w w7 9 1 Ao k co (strs (bothS bl i).2)) := Lib.hid ⟨ho7, hw7⟩
   have HT7 : Hid (TwoS w7 q p pk m n6 q2 r capB (bothS bl (i + 1)).1 (2500000 * (i + 1)) (202 * (i + 1) + 2 * lensB bl (i + 1))) := Lib.hid (by
    have e1 : (bothS bl (i + 1)).1 = addR (bothS bl i).1 x.l := by rw [← Hgd.out]; rfl
    rw [e1, HS1.out]
    have h1 := HK6.out
    have h2 := Hcl.out
    have h3 := HcL.out
    exact ⟨hS7, ⟨L6, hD7, h1.2.2.1, by omega⟩, hQ7, ⟨l7, hR7, hO7, by omega⟩⟩)
   have Hn6 : Hid (n6 ≤ 100000 * (i + 1)) := Lib.hid (by have h1 := HK6.out; have h2 := hn'.out; omega)
   have hz : (addZ (bothS bl i).1 x.l == 0) = true ∨ (addZ (bothS bl i).1 x.l == 0) = false := by cases (addZ (bothS bl i).1 x.l == 0) <;> simp
   obtain ⟨z9, hz9⟩ : ∃ z9, z9 = addZ (bothS bl i).1 x.l := ⟨_, rfl⟩
   obtain ⟨i9, hi9⟩ : ∃ i9, i9 = addX (bothS bl i).1 x.l := ⟨_, rfl⟩
   have Hi9 : Hid ((bothS bl (i + 1)).2 = (bothS bl i).2 ++ if z9 = 0 then [i9] else []) := Lib.hid (by
    rw [hi9, hz9]
    show (bothS bl i).2 ++ (if addZ (bothS bl i).1 (bl.getD i []) = 0 then [sumL (1 :: bl.getD i [])] else []) = _
    rw [Hgd.out]
    unfold addX
    by_cases h : addZ (bothS bl i).1 x.l = 0
    ·rw [if_pos h, if_pos h, if_pos h]
    ·rw [if_neg h, if_neg h])
   rw [← hz9] at hz ⊢
   rw [← hi9]
   clear hR7 hO7 hc7 f7 hS7 hD7 hQ7 hw7 ho7 CR y6 hz9 hi9
   rcases hz with d9 | d9
   ·have HO8 := Lib.hid (HO7.out.alloc (.cells #[S i9] 9))
    have g1 : k + 1 ≤ maxLen := by simp only [maxLen]; omega
    have g2 : (k + 1) * 16 ≤ 140737488355328 := by omega
    go_wp2_with (at_builtin; refine wpList_append_sl _ rfl (.tmp 62) (.tmp 64) _ rfl w 9 i0 _ 1 16 Tryz.underlying52 hi0 hz0 hz1 hz2 rfl Nat.one_pos _ _ _ _ rfl HO8.out _ 1 1 (strs [i9]) rfl (sl_str1 w7 i9) (one_strs _) g1 g2 ?_; intro A9 c9 w9 hO9 hg9 hat9; have HO9 := Lib.hid hO9; have HG9 := Lib.hid hg9)
    have HT9 := Lib.hid (HT7.out.grow HO7.out.1 ((Fr.of_below (balloc (Below.refl _ w7) (.cells #[S i9] 9))).trans (Fr.of_grown HG9.out (fun _ e => e))))
    go_roundw
    case rel => exact ⟨i + 1, k + 1, c9, n6, A9, rfl, by go_num, hlt, by omega, by omega, HT9, Hn6, Lib.hid (by
     have h9 := HO9.out
     rw [Hi9.out, if_pos (by simpa using d9)]
     rw [show strs ((bothS bl i).2 ++ [i9]) = strs (bothS bl i).2 ++ strs [i9] by simp [strs]]
     exact h9)⟩
    case measure => simp [intOf]; omega
   ·go_wp2
    go_roundw
    case rel => exact ⟨i + 1, k, co, n6, Ao, rfl, by go_num, hlt, by omega, by omega, HT7, Hn6, Lib.hid (by
     have h9 := HO7.out
     rw [Hi9.out, if_neg (by simpa using d9), List.append_nil]
     exact h9)⟩
    case measure => simp [intOf]; omega
  all_goals
   go_wp2
   go_ret3
   exact ⟨q, p, pk, m, n', q2, r, i, k, co, Ao, rfl, ⟨hT.out.sp, by
    obtain ⟨L, h1, h2, h3⟩ := hT.out.dp
    exact ⟨L, h1, h2, by omega⟩, hT.out.sr, by
    obtain ⟨l, h1, h2, h3⟩ := hT.out.dr
    exact ⟨l, h1, h2, by have := lensB_le bl i; have := Hsum.out; omega⟩⟩, hO.out, by omega⟩
end Go.Proofs.YtphnfcgdpdimbaaGreatDoor
namespace Go.Proofs.YtphnfcgdpdimbaaGreatDoor
open Go.ChangeShapes Go.WideShapes Go.RowKit Go.Deep
section
variable {H : Type} {enc : TypeId × Value → H} {w : World} {base : Nat} {held : Bool}
theorem sum_le_bulk {α : Type} (g : α → Nat) : ∀ (xs : List α) (ds : List (DataW H)), xs.length = ds.length → (∀ (i : Nat) (x : α) (d : DataW H), xs[i]? = some x → ds[i]? = some d → g x ≤ Rows.uptoBulk d) → (xs.map g).sum ≤ Rows.uptoBulkAll ds
 | [], [], _, _ => by simp
 | [], _ :: _, h, _ => by simp at h
 | _ :: _, [], h, _ => by simp at h
 | x :: xs, d :: ds, h, hg => by
  have h1 := sum_le_bulk g xs ds (by simpa using h) (fun i y e hy he => hg (i + 1) y e (by simpa using hy) (by simpa using he))
  have h2 := hg 0 x d rfl rfl
  rw [Rows.uptoBulkAll, List.map_cons, List.sum_cons]
  omega
theorem open_bytesW {fuel : Nat} {v : Value} {x : DataW H × List MemPlace} (h : DataW.trod enc Tryz.prog w base (fun _ => true) held fuel 27 [v] = some x) : ∃ b : BlobIn, v = b.v ∧ Sl w 1 b.A b.n (u8s b.l) ∧ b.l.length ≤ Rows.uptoBulk x.1 := by
 obtain ⟨A, n, c, l, rfl, hnc, _, hS, hx⟩ := bytes_sl Tryz.underlying27 Tryz.underlying5 Tryz.cellsU8 h
 refine ⟨⟨A, n, c, l⟩, rfl, hS, ?_⟩
 have hl : l.length = n := by simpa using hS.len
 show l.length ≤ _
 rcases hx with ⟨_, h0⟩ | ⟨es, sp, hx, he⟩
 ·omega
 ·rw [hx, Rows.uptoBulk]
  have h1 := bulk_len es
  have h2 := bulk_len sp
  omega
theorem Tryz.cellsRow8 : Tryz.prog.cellsOf 27 = 1 := by kernel_rfl
theorem open_blobs {fuel : Nat} {v : Value} {x : DataW H × List MemPlace} (h : DataW.trod enc Tryz.prog w base (fun _ => true) held fuel 47 [v] = some x) (hw : Rows.uptoBulk x.1 ≤ 1048576) :
  ∃ (A : Option Addr) (n c : Nat) (rs : List BlobIn), v = .slice A n c ∧ Sl w 1 A n (rs.map BlobIn.v) ∧ (∀ r ∈ rs, Sl w 1 r.A r.n (u8s r.l)) ∧ n ≤ 1048576 ∧ ((rs.map (·.l)).map List.length).sum ≤ 1048576 := by
 rcases open_slice Tryz.underlying47 h with ⟨hcs, hx⟩ | ⟨a, len, cap, m, n, D, Pl, hcs, hb, hl, hm, hmm, hx, hel⟩
 ·obtain rfl : v = .slice none 0 0 := by simpa using hcs
  exact ⟨none, 0, 0, [], rfl, Sl.nil_, by simp, by omega, by simp⟩
 ·obtain rfl : v = .slice (some a) len cap := by simpa using hcs
  rw [if_pos rfl] at hmm
  subst hmm
  have hall : ∀ i, i < len → ∃ x : BlobIn, w.cells? base (a.add (i * 1)) 1 = some [x.v] ∧ Sl w 1 x.A x.n (u8s x.l) ∧ x.l.length ≤ Rows.uptoBulk (D i) := by
   intro i hi
   obtain ⟨cs', h1, h2⟩ := hel i (by omega)
   rw [Tryz.cellsRow8] at h1
   have hl1 := (World.cells?_some h1).2.1
   match cs', hl1 with
   | [c0], _ =>
    obtain ⟨b, rfl, hb1, hb2⟩ := open_bytesW h2
    exact ⟨b, h1, hb1, hb2⟩
  obtain ⟨xs, hxl, hxs⟩ := choose_list len hall
  rw [hx, Rows.uptoBulk] at hw
  have hbl := bulk_len ((List.range len).map D)
  rw [List.length_map, List.length_range] at hbl
  have hsum := sum_le_bulk (fun b : BlobIn => b.l.length) xs ((List.range len).map D) (by simpa using hxl) (fun i y d hy hd => by
   rw [List.getElem?_map] at hd
   by_cases hi : i < len
   ·rw [List.getElem?_range hi] at hd
    cases hd
    exact (hxs i y hy).2.2
   ·rw [List.getElem?_eq_none (by simp; omega)] at hd
    cases hd)
  refine ⟨some a, len, m, xs, rfl, ⟨by simpa using hxl, fun hn => ?_⟩, fun r hr => ?_, by omega, ?_⟩
  ·obtain ⟨y0, hy0⟩ : ∃ y, xs[0]? = some y := ⟨xs[0]'(by omega), List.getElem?_eq_getElem _⟩
   have h00 := (World.cells?_some (hxs 0 y0 hy0).1).2.2 0 (by omega)
   rw [Nat.zero_mul, show (a.add 0).add 0 = a by simp [Addr.add]] at h00
   have hsp := addr_plain h00
   obtain ⟨b, off, sp⟩ := a
   subst hsp
   refine ⟨b, off, rfl, World.block_lt_of_cell? _ _ h00, fun k hk => ?_⟩
   obtain ⟨y, hy⟩ : ∃ y, xs[k]? = some y := ⟨xs[k]'(by omega), List.getElem?_eq_getElem _⟩
   have h1 := (World.cells?_some (hxs _ y hy).1).2.2 0 (by omega)
   rw [List.getElem?_map, hy]
   rw [Nat.mul_one, Deep.add_add] at h1
   have e : (⟨b, off, none⟩ : Addr).add (k + 0) = ⟨b, off + k, none⟩ := by
    unfold Addr.add
    split <;> simp_all
   rw [e] at h1
   exact h1
  ·obtain ⟨i, hi⟩ := List.getElem?_of_mem hr
   exact (hxs i r hi).2.1
  ·rw [List.map_map]
   exact Nat.le_trans hsum (by omega)
theorem Tryz.cellsRChg : Tryz.prog.cellsOf 69 = 3 := by kernel_rfl
theorem open_rchg {fuel : Nat} {cs : List Value} {x : DataW H × List MemPlace} (h : DataW.trod enc Tryz.prog w base (fun _ => true) held fuel 69 cs = some x) : ∃ f : Chg3, cs = cgC f ∧ f.1.length ≤ Rows.uptoBulk x.1 ∧ f.2.1.length ≤ Rows.uptoBulk x.1 ∧ f.2.2.length ≤ Rows.uptoBulk x.1 := by
 obtain ⟨n0, y0, h0, hl, b0⟩ := fldB Tryz.underlying69 h 0 rfl Tryz.cellsStr
 obtain ⟨n1, y1, h1, _, b1⟩ := fldB Tryz.underlying69 h 1 rfl Tryz.cellsStr
 obtain ⟨n2, y2, h2, _, b2⟩ := fldB Tryz.underlying69 h 2 rfl Tryz.cellsStr
 obtain ⟨s0, e0, f0, _⟩ := DataW.trod_string Tryz.underlying9 h0
 obtain ⟨s1, e1, f1, _⟩ := DataW.trod_string Tryz.underlying9 h1
 obtain ⟨s2, e2, f2, _⟩ := DataW.trod_string Tryz.underlying9 h2
 rw [Tryz.cellsRChg] at hl
 match cs, hl with
 | [c0, c1, c2], _ =>
  simp at e0 e1 e2
  subst e0 e1 e2
  obtain ⟨l0, rfl⟩ := str_of s0
  obtain ⟨l1, rfl⟩ := str_of s1
  obtain ⟨l2, rfl⟩ := str_of s2
  rw [f0] at b0
  rw [f1] at b1
  rw [f2] at b2
  simp [Rows.uptoBulk] at b0 b1 b2
  exact ⟨(l0, l1, l2), rfl, by show l0.length ≤ _; omega, by show l1.length ≤ _; omega, by show l2.length ≤ _; omega⟩
theorem open_rchgs {fuel : Nat} {v : Value} {x : DataW H × List MemPlace} (h : DataW.trod enc Tryz.prog w base (fun _ => true) held fuel 48 [v] = some x) (hw : Rows.uptoBulk x.1 ≤ 1048576) :
  ∃ (A : Option Addr) (n c : Nat) (l : List Chg3), v = .slice A n c ∧ Sl w 3 A n (cgs l) ∧ n ≤ 1048576 ∧ ∀ f ∈ l, f.1.length ≤ 1048576 ∧ f.2.1.length ≤ 1048576 ∧ f.2.2.length ≤ 1048576 := by
 obtain ⟨A, n, c, xs, rfl, _, hn, hxs, hS⟩ := open_rowsB (α := Chg3) cgC (fun f => f.1.length ≤ 1048576 ∧ f.2.1.length ≤ 1048576 ∧ f.2.2.length ≤ 1048576) Tryz.underlying48 Tryz.cellsRChg (by omega) (fun n cs y hy hwy => by
  obtain ⟨f, e, h1, h2, h3⟩ := open_rchg hy
  exact ⟨f, e, by omega, by omega, by omega⟩) h hw
 exact ⟨A, n, c, xs, rfl, hS, hn, fun o ho => (hxs o ho).1⟩
theorem flat_ones : ∀ xs : List Int, (xs.map fun z => [I z]).flatten = xs.map fun z => I z
 | [] => rfl
 | a :: t => by
  rw [List.map_cons, List.flatten_cons, flat_ones t]
  rfl
theorem open_nums {fuel : Nat} {v : Value} {x : DataW H × List MemPlace} (h : DataW.trod enc Tryz.prog w base (fun _ => true) held fuel 49 [v] = some x) (hw : Rows.uptoBulk x.1 ≤ 1048576) :
  ∃ (A : Option Addr) (n c : Nat) (l : List Int), v = .slice A n c ∧ Sl w 1 A n (l.map fun z => I z) ∧ n ≤ 1048576 := by
 obtain ⟨A, n, c, xs, rfl, _, hn, hxs, hS⟩ := open_rowsB (α := Int) (fun z => [I z]) (fun _ => True) Tryz.underlying49 (show Tryz.prog.cellsOf 3 = 1 by kernel_rfl) (by omega) (fun n cs y hy hwy => by
  obtain ⟨z, e1, _, _⟩ := DataW.trod_int Tryz.underlying3 hy
  exact ⟨z, by simpa using e1, trivial⟩) h hw
 refine ⟨A, n, c, xs, rfl, ?_, hn⟩
 rw [List.flatMap_def, flat_ones] at hS
 exact hS
end
end Go.Proofs.YtphnfcgdpdimbaaGreatDoor

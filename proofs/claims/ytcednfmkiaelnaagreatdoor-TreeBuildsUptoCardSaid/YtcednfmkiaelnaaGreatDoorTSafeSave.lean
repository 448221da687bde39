/-
  safe.Save at a name that may be. Conditions: the disk lies in memory, is on, has no cut ahead; the bytes can be read, one at least, no more than 1048600.
-/
import Derived.Test.YtcednfmkiaelnaaGreatDoorTKitD
import Derived.Test.YtcednfmkiaelnaaGreatDoorTKitDk
import Derived.Test.YtcednfmkiaelnaaGreatDoorTKitX
import Derived.Test.YtcednfmkiaelnaaGreatDoorTWorkRight
import Derived.RangeFuncLeaves
import Derived.RangeFuncCalls
import Derived.OwnWalkIn
namespace Go.Proofs.YtcednfmkiaelnaaGreatDoor
open Go.RowKit Go.Shelf
attribute [local go_sem] Oper.semAt_some
def shName (s : List UInt8) : List UInt8 := s ++ [126]
theorem blk_ne {w : World} {g g' : Nat} {t t' : TypeId} {cs cs' : Array Value} (h : Blk w g t cs) (h' : Blk w g' t' cs') (ht : t ≠ t') : g ≠ g' := by
 rintro rfl
 unfold Blk at h h'
 rw [h] at h'
 cases h'
 exact ht rfl
theorem DiskAt.setCell {w : World} {p m n : Nat} {cap : Int} {L : List DF} (h : DiskAt w p m n cap L) {g : Nat} {t : TypeId} {cs : Array Value} (hg : Blk w g t cs) (ht : t ≠ 5) (hd : t ≠ 118) (i : Nat) (u : Value) : DiskAt (w.setCell ⟨g, i, none⟩ u) p m n cap L := by
 obtain ⟨ops, hB⟩ := h.blk
 exact h.keep (Below.heap_setCell w _ u p (fun e => blk_ne hg hB hd e.symm)) (Below.heap_setCell w _ u m (h.map.ne_blk hg)) ((KeepT.refl _ w).setCell hg ht rfl u)
theorem Fr.far {E : Nat → Prop} {a w : World} (h : Fr E a w) {p : Addr} (hp : a.heap.size ≤ p.block) (u : Value) : Fr E a (w.setCell p u) :=
 ⟨h.os, h.tape, h.output, by rw [setCell_size]; exact h.size, fun i hi hE => (Below.heap_setCell w p u i (by omega)).trans (h.block i hi hE)⟩
theorem DiskAt.putObj {w : World} {p m n : Nat} {cap : Int} {L : List DF} (h : DiskAt w p m n cap L) {D : Nat} {o : Obj} (o' : Obj) (hl : w.heap[D]? = some o) (ho : o.isCells = false) (hp : p ≠ D) (hm : m ≠ D) : DiskAt (w.putObj D o') p m n cap L :=
 h.keep (World.putObj_heap_other (fun e => hp e)) (World.putObj_heap_other (fun e => hm e)) (keepT_own (grownBy_putObj' w D o') (fun r e => by cases e; exact ⟨o, hl, ho⟩))
theorem Fr.putObj {E : Nat → Prop} {a w : World} (h : Fr E a w) {D : Nat} (hD : a.heap.size ≤ D) (o : Obj) : Fr E a (w.putObj D o) :=
 ⟨h.os, h.tape, h.output, by have := (grownBy_putObj' w D o).size; exact Nat.le_trans h.size this, fun i hi hE => (World.putObj_heap_other (by omega)).trans (h.block i hi hE)⟩
theorem keepsFrom_fr {B p m : Nat} {V V' : World} (h : Fr (fun k => k = p ∨ k = m) V V') (hp : p < B) (hm : m < B) : KeepsFrom B V V' :=
 ⟨h.size, fun k o hk h0 _ => (h.block k (heap_lt h0) (by omega)).trans h0⟩
theorem no_zero : ∀ (a b : List UInt8), Lib.indexByte (a ++ b) 0 < 0 → Lib.indexByte a 0 < 0
 | [], _, _ => by simp [Lib.indexByte]
 | x :: a, b, h => by
  have ih := no_zero a b
  rw [List.cons_append] at h
  unfold Lib.indexByte at h ⊢
  split at h
  ·omega
  ·rename_i hx
   rw [if_neg hx]
   have h1 := Lib.indexByte_ge (a ++ b) 0
   have h2 := Lib.indexByte_ge a 0
   split at h
   ·rename_i h3
    have h4 := ih (by have := of_decide_eq_true h3; omega)
    rw [if_pos (by rw [beq_iff_eq]; omega)]
    omega
   ·omega
theorem res_cell {fn : Func} (h : fn.results = #[.cell 6 25]) (tmps : Array Value) (w : World) (g : Nat) (z : Int) (ha : tmps.getD 6 undef = .pointer (some ⟨g, 0, none⟩)) (hv : w.cell? ⟨g, 0, none⟩ = some (I z)) : (results fn tmps).run Tryz.prog w = .ok (I z) w := by
 have ha' : tmps[6]?.getD undef = .pointer (some ⟨g, 0, none⟩) := by simpa using ha
 simp [results, h, ha', asAddr, go_sem, hv]
structure SaveI (w : World) (p m n : Nat) (cap : Int) (L : List DF) (sh : List UInt8) (g off k : Nat) (bs : List UInt8) (g3 Bn : Nat) (pre : List Nat) (W : World) : Prop where
 disk : ∃ hd, DiskAt W p m (n + pre.length) cap (curF L sh bs pre.length hd)
 fr : Fr (fun k => k = p ∨ k = m) w W
 d : Blk W g3 62 #[.pointer (some ⟨p, 0, none⟩)]
 e : Blk W (g3 + 1) 25 #[I 0]
 s : Blk W (g3 + 2) 9 #[S sh]
 row : SlT (fun _ => True) 5 W 1 (some ⟨g, off, none⟩) k (u8s bs)
 box : ∃ cs, Blk W Bn 38 cs
section
variable {w : World} {p m n : Nat} {cap : Int} {L : List DF} {sh bs : List UInt8} {g off k g3 Bn : Nat}
theorem SaveI.own {B : Nat} (hp : p < B) (hm : m < B) (hw : w.heap.size ≤ B) : OwnFrom B (SaveI w p m n cap L sh g off k bs g3 Bn) := by
 rintro pre W W' row ⟨⟨hd, h1⟩, h2, h3, h4, h5, h6, cs, h7⟩ hg hr
 have nb : ∀ {j : Nat} {t : TypeId} {cs : Array Value}, Blk W j t cs → Blk W' j t cs := fun hb => hb.grown hg (fun e => by
  obtain ⟨_, o, ho, hc⟩ := hr _ e.symm
  unfold Blk at hb
  rw [hb] at ho
  cases ho
  cases hc)
 have kk : ∀ {t : TypeId}, KeepT t W W' := keepT_own hg (fun r e => (hr r e).2)
 have lo : ∀ i, i < B → some i ≠ row := fun i hi e => by have := (hr _ e.symm).1; omega
 exact ⟨⟨hd, h1.keep (hg.block p h1.lt (lo p hp)) (hg.block m h1.map.lt (lo m hm)) kk⟩, ⟨hg.os.trans h2.os, hg.tape.trans h2.tape, hg.output.trans h2.output, Nat.le_trans h2.size hg.size, fun i hi hE => (hg.block i (Nat.lt_of_lt_of_le hi h2.size) (lo i (by omega))).trans (h2.block i hi hE)⟩, nb h3, nb h4, nb h5, h6.keep kk, cs, nb h7⟩
theorem SaveI.set_ (hBn : w.heap.size ≤ Bn) {pre : List Nat} {W : World} (h : SaveI w p m n cap L sh g off k bs g3 Bn pre W) (v : Value) : SaveI w p m n cap L sh g off k bs g3 Bn pre (W.setCell ⟨Bn, 0, none⟩ v) := by
 obtain ⟨⟨hd, h1⟩, h2, h3, h4, h5, h6, cs, h7⟩ := h
 exact ⟨⟨hd, h1.setCell h7 (by decide) (by decide) 0 v⟩, ⟨h2.os, h2.tape, h2.output, by rw [setCell_size]; exact h2.size, fun i hi hE => (Below.heap_setCell W _ v i (by show i ≠ Bn; omega)).trans (h2.block i hi hE)⟩,
  h3.far (blk_ne h3 h7 (by decide)) v, h4.far (blk_ne h4 h7 (by decide)) v, h5.far (blk_ne h5 h7 (by decide)) v, h6.keep ((KeepT.refl _ W).setCell h7 (by decide) rfl v), _, h7.set_ 0 v⟩
end
set_option maxRecDepth 100000 in
set_option maxHeartbeats 4000000 in
theorem save_good (w : World) (p m n : Nat) (cap : Int) (L : List DF) (s : List UInt8) (g off k c : Nat) (bs : List UInt8) (h : DiskAt w p m n cap L) (hA : SlT (fun _ => True) 5 w 1 (some ⟨g, off, none⟩) k (u8s bs)) (hk : 0 < k) (hk2 : k ≤ 2000000) (hkc : k ≤ c) (hc2 : c ≤ maxLen)
  (hs : okName (shName s) = true) (hs0 : s ≠ []) (hs1 : Lib.hasSuffix s [126] = false) (hcap : cap ≤ 4000000000000) (hc : (costs L : Int) ≤ cap) (hn : n + 100000 < maxLen) :
  Calls Tryz.prog 152 #[.pointer (some ⟨p, 0, none⟩), S s, .slice (some ⟨g, off, none⟩) k c] w fun e w' => (e = .returned (I 4) ∧ cap - costs (dropF L (shName s)) < 16 + (s.length + 1) + k ∧ DiskAt w' p m n cap (dropF L (shName s)) ∧ Fr (fun k => k = p ∨ k = m) w w')
   ∨ (e = .returned (I 0) ∧ ((16 + (s.length + 1) + k : Nat) : Int) ≤ cap - costs (dropF L (shName s)) ∧ ∃ hd n', n' ≤ n + 100000 ∧ DiskAt w' p m n' cap (putF (dropF L (shName s)) s hd bs) ∧ Fr (fun k => k = p ∨ k = m) w w') := by
 have hsl : s.length ≤ 199 := by
  have := (okName_len hs).2
  unfold shName at this
  rw [List.length_append] at this
  simp at this
  omega
 have hos : okName s = true := by
  unfold okName at hs ⊢
  simp only [Bool.and_eq_true, decide_eq_true_eq] at hs ⊢
  obtain ⟨h1, h2, h3⟩ := hs
  exact ⟨List.length_pos_iff.2 hs0, by omega, no_zero s [126] h3⟩
 have Hos := Lib.hid hos
 clear hos
 have HD := Lib.hid h
 have HA := Lib.hid hA
 have Hs := Lib.hid hs
 have hss := okName_good hs
 have hcat : (⟨s.toArray⟩ : ByteArray) ++ ⟨#[126]⟩ = ⟨(shName s).toArray⟩ := ba_app s [126]
 have hq1 : s.isEmpty = false := by
  cases s with
  | nil => exact absurd rfl hs0
  | cons a r => rfl
 have CH := Lib.hid (fun W => Tryz.strings_HasSuffix ⟨s.toArray⟩ ⟨#[126]⟩ W (by rw [size_mk]; omega))
 rw [show Lib.hasSuffix (⟨s.toArray⟩ : ByteArray).data.toList (⟨#[126]⟩ : ByteArray).data.toList = false by simpa using hs1] at CH
 obtain ⟨g3, hg3⟩ : ∃ g3, g3 = w.heap.size := ⟨_, rfl⟩
 obtain ⟨w3, hw3⟩ : ∃ w3, w3 = ((w.alloc (.cells #[.pointer (some ⟨p, 0, none⟩)] 62)).alloc (.cells #[I 0] 25)).alloc (.cells #[S (shName s)] 9) := ⟨_, rfl⟩
 have b3 : Below w.heap.size w w3 := by rw [hw3]; exact balloc (balloc (balloc (Below.refl _ w) _) _) _
 have e3 : Blk w3 g3 62 #[.pointer (some ⟨p, 0, none⟩)] := by rw [hw3, hg3]; exact ((Blk.new w _ _).alloc _).alloc _
 have e4 : Blk w3 (g3 + 1) 25 #[I 0] := by rw [hw3, hg3]; have := (Blk.new (w.alloc (.cells #[.pointer (some ⟨p, 0, none⟩)] 62)) 25 #[I 0]).alloc (.cells #[S (shName s)] 9); rwa [World.size_alloc] at this
 have e5 : Blk w3 (g3 + 2) 9 #[S (shName s)] := by rw [hw3, hg3]; have := Blk.new ((w.alloc (.cells #[.pointer (some ⟨p, 0, none⟩)] 62)).alloc (.cells #[I 0] 25)) 9 #[S (shName s)]; rwa [World.size_alloc, World.size_alloc] at this
 have B3 := Lib.hid b3
 have E3 := Lib.hid e3
 have E4 := Lib.hid e4
 have E5 := Lib.hid e5
 have HD3 := Lib.hid (HD.out.step b3)
 have HA3 := Lib.hid (HA.out.step b3)
 have Hg3 := Lib.hid hg3
 have r3 := e3.cell
 have r4 := e4.cell
 have f4 := e4.frozen
 have r5 := e5.cell
 clear h hA hs hs0 hs1 b3 e3 e4 e5
 refine (callsIn_wide (n := 6)).1 ?_
 refine callsIn_of_wp_marks Tryz.func152 rfl trivial ?_ rfl
 simp only [Tryz.ntmps152, List.size_toArray, List.length_cons, List.length_nil, Nat.reduceAdd, Nat.reduceSub, Array.replicate_succ, Array.replicate_zero, List.push_toArray, List.append_toArray, List.nil_append, List.cons_append]
 rcases hg : getF L (shName s) with _ | x
 ·have CR := Lib.hid (dread_none w3 p m n cap L (shName s) HD3.out Hs.out hg)
  have CHas := fun W (h : DiskAt W p m n cap L) => dHas_any W p m n cap L (shName s) h hss
  rw [hg] at CHas
  have CHs := Lib.hid CHas
  have Hg := Lib.hid hg
  clear hg CHas
  gi_wp2
  simp only [← hg3, Nat.add_assoc, Nat.reduceAdd]
  rw [← hw3]
  clear hw3 hg3
  refine ⟨trivial, ?_⟩
  refine (callsIn_wide.2 CR.out).mono ?_
  rintro e w4 ⟨rfl, b4⟩
  have B4 := Lib.hid b4
  have HD4 := HD3.out.step b4
  have s3 := (E3.out.step b4).cell
  have s5 := (E5.out.step b4).cell
  have CO := Lib.hid (dOff_any w4 p m n cap L HD4)
  have CHa := Lib.hid (CHs.out w4 HD4)
  have CN := Lib.hid (fun W => need_any W s k (by omega) (by omega))
  clear b4 HD4 r3 r4 r5 f4 CR CHs
  gi_wp2_with (first
   | (refine ⟨trivial, ?_⟩; gi_at_call 101; refine (callsIn_wide.2 (CH.out _)).mono ?_; rintro e w' ⟨rfl, h⟩; obtain rfl := h.symm)
   | (refine ⟨trivial, ?_⟩; gi_at_call 213; refine (callsIn_wide.2 CO.out).mono ?_; rintro e w' ⟨rfl, h⟩; obtain rfl := h.symm)
   | (refine ⟨trivial, ?_⟩; gi_at_call 214; refine (callsIn_wide.2 CHa.out).mono ?_; rintro e w' ⟨rfl, h⟩; obtain rfl := h.symm))
  clear CO CHa CH s3 s5
  have hle : dropF L (shName s) = L := dropF_none (getF_none.1 Hg.out)
  have HD5 : Hid (DiskAt w4 p m n cap (dropF L (shName s))) := Lib.hid (by rw [hle]; exact HD3.out.step B4.out)
  have F5 : Hid (Fr (fun k => k = p ∨ k = m) w w4) := Lib.hid (.of_below (bstep B3.out B4.out))
  have E35 := Lib.hid (E3.out.step B4.out)
  have E45 := Lib.hid (E4.out.step B4.out)
  have E55 := Lib.hid (E5.out.step B4.out)
  have HA5 := Lib.hid (HA3.out.step B4.out)
  have Hg5 : Hid (w.heap.size ≤ w4.heap.size) := Lib.hid (bstep B3.out B4.out).size
  clear hle B4 Hg
  have s3 := E35.out.cell
  have s4 := E45.out.cell
  have f4 := E45.out.frozen
  have s5 := E55.out.cell
  have CF := Lib.hid (dFree_any w4 p m n cap _ HD5.out)
  have CCh := Lib.hid (chunks_any w4 (some ⟨g, off, none⟩) k c)
  obtain ⟨fr, hfr⟩ : ∃ fr : Int, fr = cap - costs (dropF L (shName s)) := ⟨_, rfl⟩
  have Hfr := Lib.hid hfr
  rw [← hfr] at CF
  clear hfr
  have hfr2 : fr ≤ 4000000000000 := by have := Hfr.out; omega
  have dR : decide (fr < 16 + ((s.length : Int) + 1) + (k : Int)) = true ∨ decide (fr < 16 + ((s.length : Int) + 1) + (k : Int)) = false := by cases decide (fr < 16 + ((s.length : Int) + 1) + (k : Int)) <;> simp
  rcases dR with dR | dR
  ·have HR := Lib.hid (of_decide_eq_true dR)
   gi_wp2_with (first
    | (refine ⟨trivial, ?_⟩; gi_at_call 216; refine (callsIn_wide.2 CF.out).mono ?_; rintro e w' ⟨rfl, h⟩; obtain rfl := h.symm)
    | (refine ⟨trivial, ?_⟩; gi_at_call 217; refine (callsIn_wide.2 (CN.out _)).mono ?_; rintro e w' ⟨rfl, h⟩; obtain rfl := h.symm))
   refine ⟨_, res_cell rfl _ _ (g3 + 1) 4 rfl ((E45.out.set_ 0 (I 4)).cell 0), .inl ⟨rfl, ?_, ?_, ?_⟩⟩
   ·have h1 := HR.out
    have h2 := Hfr.out
    omega
   ·exact HD5.out.setCell E45.out (by decide) (by decide) 0 _
   ·exact F5.out.far (by show w.heap.size ≤ g3 + 1; rw [Hg3.out]; exact Nat.le_succ _) _
  ·have HR := Lib.hid (of_decide_eq_false dR)
   gi_wp2_with (first
    | (refine ⟨trivial, ?_⟩; gi_at_call 216; refine (callsIn_wide.2 CF.out).mono ?_; rintro e w' ⟨rfl, h⟩; obtain rfl := h.symm)
    | (refine ⟨trivial, ?_⟩; gi_at_call 217; refine (callsIn_wide.2 (CN.out _)).mono ?_; rintro e w' ⟨rfl, h⟩; obtain rfl := h.symm)
    | (refine ⟨trivial, ?_⟩; gi_at_call 218; refine (callsIn_wide.2 CCh.out).mono ?_; rintro e w6 ⟨rfl, rfl⟩))
   have hplt : p < w4.heap.size := HD5.out.lt
   have hmlt : m < w4.heap.size := HD5.out.map.lt
   have hwle := Hg5.out
   have hBx : Blk (w4.alloc (.cells #[.slice (some ⟨g, off, none⟩) k c] 38)) w4.heap.size 38 #[.slice (some ⟨g, off, none⟩) k c] := Blk.new w4 _ _
   have hI0 : SaveI w p m n cap (dropF L (shName s)) (shName s) g off k bs g3 w4.heap.size [] (w4.alloc (.cells #[.slice (some ⟨g, off, none⟩) k c] 38)) :=
    ⟨⟨⟨none, 0, 0⟩, HD5.out.step (balloc (Below.refl _ w4) _)⟩, F5.out.alloc _, E35.out.alloc _, E45.out.alloc _, E55.out.alloc _, HA5.out.step (balloc (Below.refl _ w4) _), _, hBx⟩
   refine wpIn_rangeFunc_state rfl (by omega) (gf := 272) (lb := #[.pointer (some ⟨w4.heap.size, 0, none⟩)]) rfl trivial (enters_of Tryz.func272 (by kernel_rfl) rfl)
    (chunks_stops 5 (by omega) w4.heap.size g off k c hk hkc hc2 _ hBx) (by simp) (fun _ => rfl)
    (SaveI w p m n cap (dropF L (shName s)) (shName s) g off k bs g3 w4.heap.size) (fun _ _ _ => False)
    (SaveI.own (by simp; omega) (by simp; omega) (by simp; omega)) (fun _ _ _ _ _ hs _ _ => hs) (fun _ _ v hs => hs.set_ hwle v) hI0 ?round ?done ?stop
   case round =>
    intro l pre x U hi hT
    obtain ⟨rfl, hlt⟩ := TK_last hT
    obtain ⟨kk, hkk⟩ : ∃ kk, kk = min (k - 64 * pre.length) 64 := ⟨_, rfl⟩
    rw [show encK g off k c pre.length = #[.slice (some ⟨g, off + 64 * pre.length, none⟩) kk (c - 64 * pre.length)] by unfold encK; rw [hkk]]
    have Hkk0 := Lib.hid hkk
    clear hkk
    gi_wp2
    refine ⟨trivial, fun V hv => ?_⟩
    obtain ⟨⟨hd, v1⟩, v2, v3, v4, v5, v6, cs, v7⟩ := hv
    have hkk := Hkk0.out
    have hbl : bs.length = k := by have := v6.sl.1; simpa [u8s] using this
    have q0 : 64 * pre.length + kk ≤ k := by omega
    have hg0 : getF (dropF L (shName s)) (shName s) = none := getF_drop_self L (shName s)
    have hco := cur_costs (bs := bs) (j := pre.length) (hd := hd) hg0
    have hshl : (shName s).length = s.length + 1 := by unfold shName; simp
    have hsh : costs (curF (dropF L (shName s)) (shName s) bs pre.length hd) + moreA (curF (dropF L (shName s)) (shName s) bs pre.length hd) (shName s) kk ≤ costs (dropF L (shName s)) + (16 + (s.length + 1) + k) := by
     rw [hco, cur_more hg0, hbl, hshl]
     split <;> omega
    have HRo : Hid ((costs (dropF L (shName s)) : Int) + (16 + (s.length + 1) + k) ≤ cap) := Lib.hid (by have h1 := HR.out; have h2 := Hfr.out; omega)
    have hcc : (costs (curF (dropF L (shName s)) (shName s) bs pre.length hd) : Int) ≤ cap := by have := HRo.out; omega
    have CAp := Lib.hid (dappend_any V p m (n + pre.length) cap (curF (dropF L (shName s)) (shName s) bs pre.length hd) (shName s) (some ⟨g, off + 64 * pre.length, none⟩) kk (c - 64 * pre.length) ((bs.drop (64 * pre.length)).take kk) v1 (v6.mid q0) (by omega) Hs.out hcap hcc (by omega) (by rw [cur_old hg0, List.length_take]; omega))
    have Hsh := Lib.hid hsh
    have Hkk := Lib.hid hkk
    have Hbl := Lib.hid hbl
    have V1 := Lib.hid v1
    have V2 := Lib.hid v2
    have V3 := Lib.hid v3
    have V4 := Lib.hid v4
    have V5 := Lib.hid v5
    have V6 := Lib.hid v6
    have V7 := Lib.hid v7
    have t3 := v3.cell
    have t5 := v5.cell
    clear v1 v2 v3 v4 v5 v6 v7 hco hshl hsh hcc hbl hkk hi hT hg0 q0 s3 s4 s5 f4
    gi_wp2_with fail
    refine ⟨trivial, ?_⟩
    refine (CallsIn.inRound l (callsIn_wide.2 CAp.out)).mono ?_
    rintro e V' (⟨_, h4, _⟩ | ⟨rfl, _, hd', hD', hF'⟩)
    ·exfalso
     have h1 := Hsh.out
     have h2 := HRo.out
     omega
    ·have nep : ∀ {j : Nat} {t : TypeId} {cs : Array Value}, Blk V j t cs → t ≠ 118 → ¬ (j = p ∨ j = m) := fun hj ht e => by
      obtain ⟨ops, hB⟩ := V1.out.blk
      rcases e with rfl | rfl
      ·exact blk_ne hj hB ht rfl
      ·exact V1.out.map.ne_blk hj rfl
     have kk8 : KeepT 5 V V' := KeepT.of_fr hF' (fun j cs fr e => by
      obtain ⟨ops, hB⟩ := V1.out.blk
      rcases e with rfl | rfl
      ·exact Blk.type hB (by decide) cs fr
      ·exact V1.out.map.is.no_cells cs fr)
     have hg0 : getF (dropF L (shName s)) (shName s) = none := getF_drop_self L (shName s)
     rw [cur_put, cur_old hg0, Hkk.out, cur_step k Hbl.out] at hD'
     have hn' : SaveI w p m n cap (dropF L (shName s)) (shName s) g off k bs g3 w4.heap.size (pre ++ [pre.length]) V' := by
      refine ⟨⟨hd', ?_⟩, V2.out.trans hF', hF'.blk V3.out (nep V3.out (by decide)), hF'.blk V4.out (nep V4.out (by decide)), hF'.blk V5.out (nep V5.out (by decide)), V6.out.keep kk8, cs, hF'.blk V7.out (nep V7.out (by decide))⟩
      rw [List.length_append, List.length_singleton]
      unfold curF
      rw [if_neg (by omega)]
      exact hD'
     have hbx : V'.heap[w4.heap.size]? = V.heap[w4.heap.size]? := hF'.block _ V7.out.lt (nep V7.out (by decide))
     have Hn' := Lib.hid hn'
     have Hbx := Lib.hid hbx
     have Hkf := Lib.hid (keepsFrom_fr (B := (w4.alloc (.cells #[.slice (some ⟨g, off, none⟩) k c] 38)).heap.size) hF' (by simp; omega) (by simp; omega))
     clear nep kk8 hg0 hD' hn' hbx hF' t3 t5
     gi_wp2
     exact ⟨Hkf.out, Hbx.out, Hn'.out⟩
   case done =>
    intro xs U hS hi hK
    rw [World.size_alloc] at hK
    obtain ⟨⟨hd, u1⟩, u2, u3, u4, u5, u6, cs, u7⟩ := hi
    have hbl : bs.length = k := by have := u6.sl.1; simpa [u8s] using this
    obtain ⟨hx1, hx2, hx3⟩ := hS
    have hg0 : getF (dropF L (shName s)) (shName s) = none := getF_drop_self L (shName s)
    have hshl : (shName s).length = s.length + 1 := by unfold shName; simp
    have ecur : curF (dropF L (shName s)) (shName s) bs xs.length hd = putF (dropF L (shName s)) (shName s) hd bs := by
     unfold curF
     rw [if_neg (by omega), List.take_of_length_le (by omega)]
    rw [ecur] at u1
    have hgs : getF (putF (dropF L (shName s)) (shName s) hd bs) (shName s) = some (shName s, hd, bs) := by rw [getF_put, if_pos rfl]
    have hcx := put_costs (hd := hd) hg0 bs
    have HRo : Hid ((costs (dropF L (shName s)) : Int) + (16 + (s.length + 1) + k) ≤ cap) := Lib.hid (by have h1 := HR.out; have h2 := Hfr.out; omega)
    have hcc : (costs (putF (dropF L (shName s)) (shName s) hd bs) : Int) ≤ cap := by have := HRo.out; rw [hcx, hbl, hshl]; omega
    have hne : s ≠ shName s := fun e => by have := congrArg List.length e; omega
    have hos : okName s = true := Hos.out
    have CSy := Lib.hid (dsync_any U p m (n + xs.length) cap _ (shName s) u1 Hs.out (by rw [hgs]; rfl) hcap hcc)
    have CRn := Lib.hid (fun W h => drename_any W p m (n + xs.length) cap _ (shName s) s (shName s, hd, bs) h hgs Hs.out hos hne hcap hcc (by omega))
    have hcr := costs_ren (L := putF (dropF L (shName s)) (shName s) hd bs) (t := s) u1.keys hne hgs
    have Hcr := Lib.hid (show (costs (putF (dropF (putF (dropF L (shName s)) (shName s) hd bs) (shName s)) s hd bs) : Int) ≤ cap by have hcr' : costs (putF (dropF (putF (dropF L (shName s)) (shName s) hd bs) (shName s)) s hd bs) + (shName s).length + costOf (putF (dropF L (shName s)) (shName s) hd bs) s = costs (putF (dropF L (shName s)) (shName s) hd bs) + s.length := hcr; omega)
    have efin : putF (dropF (putF (dropF L (shName s)) (shName s) hd bs) (shName s)) s hd bs = putF (dropF L (shName s)) s hd bs := by rw [drop_put, dropF_none (getF_none.1 hg0)]
    have Hefin := Lib.hid efin
    have Hx := Lib.hid (show n + xs.length + 1 ≤ n + 100000 by omega)
    have U1 := Lib.hid u1
    have U2 := Lib.hid u2
    have U3 := Lib.hid u3
    have U4 := Lib.hid u4
    have U5 := Lib.hid u5
    have HK := Lib.hid hK
    have t3 := u3.cell
    have t5 := u5.cell
    clear u1 u2 u3 u4 u5 u6 u7 hK hcr efin hcx hcc hgs ecur hx1 hx2 hx3 hne hos hbl hshl hg0 s3 s4 s5 f4
    have nep : ∀ {V : World} {j n : Nat} {l : List DF} {t : TypeId} {cs : Array Value}, DiskAt V p m n cap l → Blk V j t cs → t ≠ 118 → ¬ (j = p ∨ j = m) := fun hd hj ht e => by
     obtain ⟨ops, hB⟩ := hd.blk
     rcases e with rfl | rfl
     ·exact blk_ne hj hB ht rfl
     ·exact hd.map.ne_blk hj rfl
    gi_wp2_with fail
    refine ⟨trivial, ?_⟩
    refine (callsIn_wide.2 CSy.out).mono ?_
    rintro e U' ⟨rfl, hD', hF'⟩
    have U3' := Lib.hid (hF'.blk U3.out (nep U1.out U3.out (by decide)))
    have U4' := Lib.hid (hF'.blk U4.out (nep U1.out U4.out (by decide)))
    have U5' := Lib.hid (hF'.blk U5.out (nep U1.out U5.out (by decide)))
    have U2' := Lib.hid (U2.out.trans hF')
    have HK' : Hid (U'.heap[w4.heap.size + 1]? = some (.deferred (some []))) := Lib.hid ((hF'.block _ (heap_lt HK.out) (by omega)).trans HK.out)
    have CR' := Lib.hid (CRn.out U' hD')
    have hD2 := Lib.hid hD'
    clear hD' hF' t3 t5 U3 U4 U5 U2 HK CSy CRn
    have t3 := U3'.out.cell
    have t5 := U5'.out.cell
    gi_wp2_with fail
    refine ⟨trivial, ?_⟩
    refine (callsIn_wide.2 CR'.out).mono ?_
    rintro e U'' (⟨_, h4, _⟩ | ⟨rfl, _, hD', hF'⟩)
    ·exfalso
     have h1 := Hcr.out
     have h2 : cap < costs (putF (dropF (putF (dropF L (shName s)) (shName s) hd bs) (shName s)) s hd bs) := h4
     omega
    ·rw [Hefin.out] at hD'
     have U4'' := Lib.hid (hF'.blk U4'.out (nep hD2.out U4'.out (by decide)))
     have U2'' := Lib.hid (U2'.out.trans hF')
     have HK'' : Hid (U''.heap[w4.heap.size + 1]? = some (.deferred (some []))) := Lib.hid ((hF'.block _ (heap_lt HK'.out) (by omega)).trans HK'.out)
     have HD' := Lib.hid hD'
     have t4 := U4''.out.cell
     have tf := U4''.out.frozen
     clear hD' hF' t3 t5
     gi_wp2
     have hne4 : g3 + 1 ≠ w4.heap.size + 1 := fun e => by
      have h1 := U4''.out
      unfold Blk at h1
      rw [e, HK''.out] at h1
      cases h1
     have hKf : (U''.setCell ⟨g3 + 1, 0, none⟩ (I 0)).heap[w4.heap.size + 1]? = some (.deferred (some [])) := (Below.heap_setCell _ _ _ _ (fun e => hne4 e.symm)).trans HK''.out
     refine ⟨by simp, .inl ⟨_, _, rfl, run_takeDeferred hKf, ?_⟩⟩
     refine ⟨_, res_cell rfl _ _ (g3 + 1) 0 rfl ?_, .inr ⟨rfl, ?_, hd, n + xs.length + 1, Hx.out, ?_, ?_⟩⟩
     ·have h1 := (U4''.out.set_ 0 (I 0)).grown (grownBy_putObj' _ _ (.deferred none)) (fun e => hne4 (Option.some.inj e))
      exact h1.cell 0
     ·have h1 := HR.out
      have h2 := Hfr.out
      omega
     ·exact (HD'.out.setCell U4''.out (by decide) (by decide) 0 _).putObj _ hKf rfl (by omega) (by omega)
     ·exact (U2''.out.far (by show w.heap.size ≤ g3 + 1; rw [Hg3.out]; exact Nat.le_succ _) _).putObj (by omega) _
   case stop =>
    rintro c pre U _ hf _
    exact hf.elim
 ·have CR := Lib.hid (dread_some w3 p m n cap L (shName s) x HD3.out hg)
  have CHas := fun W (h : DiskAt W p m n cap L) => dHas_any W p m n cap L (shName s) h hss
  rw [hg] at CHas
  have CHs := Lib.hid CHas
  have Hg := Lib.hid hg
  clear hg CHas
  gi_wp2
  simp only [← hg3, Nat.add_assoc, Nat.reduceAdd]
  rw [← hw3]
  clear hw3 hg3
  refine ⟨trivial, ?_⟩
  refine (callsIn_wide.2 CR.out).mono ?_
  rintro e w4 ⟨Ar, kr, cr, rfl, hOr⟩
  have b4 := hOr.2
  clear hOr
  have B4 := Lib.hid b4
  have HD4 := HD3.out.step b4
  have s3 := (E3.out.step b4).cell
  have s5 := (E5.out.step b4).cell
  have CO := Lib.hid (dOff_any w4 p m n cap L HD4)
  have CHa := Lib.hid (CHs.out w4 HD4)
  have CN := Lib.hid (fun W => need_any W s k (by omega) (by omega))
  clear b4 HD4 r3 r4 r5 f4 CR CHs
  gi_wp2_with (first
   | (refine ⟨trivial, ?_⟩; gi_at_call 101; refine (callsIn_wide.2 (CH.out _)).mono ?_; rintro e w' ⟨rfl, h⟩; obtain rfl := h.symm)
   | (refine ⟨trivial, ?_⟩; gi_at_call 213; refine (callsIn_wide.2 CO.out).mono ?_; rintro e w' ⟨rfl, h⟩; obtain rfl := h.symm)
   | (refine ⟨trivial, ?_⟩; gi_at_call 214; refine (callsIn_wide.2 CHa.out).mono ?_; rintro e w' ⟨rfl, h⟩; obtain rfl := h.symm))
  clear CO CHa CH s3 s5
  have HD4 := HD3.out.step B4.out
  have CX := Lib.hid (dremove_any w4 p m n cap L (shName s) HD4 Hs.out (by rw [Hg.out]; rfl) hcap hc)
  have s3 := (E3.out.step B4.out).cell
  have s5 := (E5.out.step B4.out).cell
  have Hhd := Lib.hid HD4
  clear HD4
  gi_wp2_with fail
  refine ⟨trivial, ?_⟩
  refine (callsIn_wide.2 CX.out).mono ?_
  rintro e w5 ⟨rfl, hD5, hF5⟩
  have nep : ∀ {j : Nat} {t : TypeId} {cs : Array Value}, Blk w4 j t cs → t ≠ 118 → ¬ (j = p ∨ j = m) := fun hj ht e => by
   obtain ⟨ops, hB⟩ := Hhd.out.blk
   rcases e with rfl | rfl
   ·exact blk_ne hj hB ht rfl
   ·exact Hhd.out.map.ne_blk hj rfl
  have E35 := Lib.hid (hF5.blk (E3.out.step B4.out) (nep (E3.out.step B4.out) (by decide)))
  have E45 := Lib.hid (hF5.blk (E4.out.step B4.out) (nep (E4.out.step B4.out) (by decide)))
  have E55 := Lib.hid (hF5.blk (E5.out.step B4.out) (nep (E5.out.step B4.out) (by decide)))
  have HA5 : Hid (SlT (fun _ => True) 5 w5 1 (some ⟨g, off, none⟩) k (u8s bs)) := Lib.hid (by
   obtain ⟨ops, hB⟩ := Hhd.out.blk
   refine (HA3.out.step B4.out).keep (KeepT.of_fr hF5 (fun j cs fr e => ?_))
   rcases e with rfl | rfl
   ·exact Blk.type hB (by decide) cs fr
   ·exact Hhd.out.map.is.no_cells cs fr)
  have HD5 := Lib.hid hD5
  have F5 : Hid (Fr (fun k => k = p ∨ k = m) w w5) := Lib.hid ((Fr.of_below (bstep B3.out B4.out)).trans hF5)
  have Hg5 : Hid (w.heap.size ≤ w5.heap.size) := Lib.hid F5.out.size
  clear hD5 hF5 nep s3 s5 CX Hhd B4 Hg
  have s3 := E35.out.cell
  gi_wp2_with fail
  have s3 := E35.out.cell
  have s4 := E45.out.cell
  have f4 := E45.out.frozen
  have s5 := E55.out.cell
  have CF := Lib.hid (dFree_any w5 p m n cap _ HD5.out)
  have CCh := Lib.hid (chunks_any w5 (some ⟨g, off, none⟩) k c)
  obtain ⟨fr, hfr⟩ : ∃ fr : Int, fr = cap - costs (dropF L (shName s)) := ⟨_, rfl⟩
  have Hfr := Lib.hid hfr
  rw [← hfr] at CF
  clear hfr
  have hfr2 : fr ≤ 4000000000000 := by have := Hfr.out; omega
  have dR : decide (fr < 16 + ((s.length : Int) + 1) + (k : Int)) = true ∨ decide (fr < 16 + ((s.length : Int) + 1) + (k : Int)) = false := by cases decide (fr < 16 + ((s.length : Int) + 1) + (k : Int)) <;> simp
  rcases dR with dR | dR
  ·have HR := Lib.hid (of_decide_eq_true dR)
   gi_wp2_with (first
    | (refine ⟨trivial, ?_⟩; gi_at_call 216; refine (callsIn_wide.2 CF.out).mono ?_; rintro e w' ⟨rfl, h⟩; obtain rfl := h.symm)
    | (refine ⟨trivial, ?_⟩; gi_at_call 217; refine (callsIn_wide.2 (CN.out _)).mono ?_; rintro e w' ⟨rfl, h⟩; obtain rfl := h.symm))
   refine ⟨_, res_cell rfl _ _ (g3 + 1) 4 rfl ((E45.out.set_ 0 (I 4)).cell 0), .inl ⟨rfl, ?_, ?_, ?_⟩⟩
   ·have h1 := HR.out
    have h2 := Hfr.out
    omega
   ·exact HD5.out.setCell E45.out (by decide) (by decide) 0 _
   ·exact F5.out.far (by show w.heap.size ≤ g3 + 1; rw [Hg3.out]; exact Nat.le_succ _) _
  ·have HR := Lib.hid (of_decide_eq_false dR)
   gi_wp2_with (first
    | (refine ⟨trivial, ?_⟩; gi_at_call 216; refine (callsIn_wide.2 CF.out).mono ?_; rintro e w' ⟨rfl, h⟩; obtain rfl := h.symm)
    | (refine ⟨trivial, ?_⟩; gi_at_call 217; refine (callsIn_wide.2 (CN.out _)).mono ?_; rintro e w' ⟨rfl, h⟩; obtain rfl := h.symm)
    | (refine ⟨trivial, ?_⟩; gi_at_call 218; refine (callsIn_wide.2 CCh.out).mono ?_; rintro e w6 ⟨rfl, rfl⟩))
   have hplt : p < w5.heap.size := HD5.out.lt
   have hmlt : m < w5.heap.size := HD5.out.map.lt
   have hwle := Hg5.out
   have hBx : Blk (w5.alloc (.cells #[.slice (some ⟨g, off, none⟩) k c] 38)) w5.heap.size 38 #[.slice (some ⟨g, off, none⟩) k c] := Blk.new w5 _ _
   have hI0 : SaveI w p m n cap (dropF L (shName s)) (shName s) g off k bs g3 w5.heap.size [] (w5.alloc (.cells #[.slice (some ⟨g, off, none⟩) k c] 38)) :=
    ⟨⟨⟨none, 0, 0⟩, HD5.out.step (balloc (Below.refl _ w5) _)⟩, F5.out.alloc _, E35.out.alloc _, E45.out.alloc _, E55.out.alloc _, HA5.out.step (balloc (Below.refl _ w5) _), _, hBx⟩
   refine wpIn_rangeFunc_state rfl (by omega) (gf := 272) (lb := #[.pointer (some ⟨w5.heap.size, 0, none⟩)]) rfl trivial (enters_of Tryz.func272 (by kernel_rfl) rfl)
    (chunks_stops 5 (by omega) w5.heap.size g off k c hk hkc hc2 _ hBx) (by simp) (fun _ => rfl)
    (SaveI w p m n cap (dropF L (shName s)) (shName s) g off k bs g3 w5.heap.size) (fun _ _ _ => False)
    (SaveI.own (by simp; omega) (by simp; omega) (by simp; omega)) (fun _ _ _ _ _ hs _ _ => hs) (fun _ _ v hs => hs.set_ hwle v) hI0 ?round ?done ?stop
   case round =>
    intro l pre x U hi hT
    obtain ⟨rfl, hlt⟩ := TK_last hT
    obtain ⟨kk, hkk⟩ : ∃ kk, kk = min (k - 64 * pre.length) 64 := ⟨_, rfl⟩
    rw [show encK g off k c pre.length = #[.slice (some ⟨g, off + 64 * pre.length, none⟩) kk (c - 64 * pre.length)] by unfold encK; rw [hkk]]
    have Hkk0 := Lib.hid hkk
    clear hkk
    gi_wp2
    refine ⟨trivial, fun V hv => ?_⟩
    obtain ⟨⟨hd, v1⟩, v2, v3, v4, v5, v6, cs, v7⟩ := hv
    have hkk := Hkk0.out
    have hbl : bs.length = k := by have := v6.sl.1; simpa [u8s] using this
    have q0 : 64 * pre.length + kk ≤ k := by omega
    have hg0 : getF (dropF L (shName s)) (shName s) = none := getF_drop_self L (shName s)
    have hco := cur_costs (bs := bs) (j := pre.length) (hd := hd) hg0
    have hshl : (shName s).length = s.length + 1 := by unfold shName; simp
    have hsh : costs (curF (dropF L (shName s)) (shName s) bs pre.length hd) + moreA (curF (dropF L (shName s)) (shName s) bs pre.length hd) (shName s) kk ≤ costs (dropF L (shName s)) + (16 + (s.length + 1) + k) := by
     rw [hco, cur_more hg0, hbl, hshl]
     split <;> omega
    have HRo : Hid ((costs (dropF L (shName s)) : Int) + (16 + (s.length + 1) + k) ≤ cap) := Lib.hid (by have h1 := HR.out; have h2 := Hfr.out; omega)
    have hcc : (costs (curF (dropF L (shName s)) (shName s) bs pre.length hd) : Int) ≤ cap := by have := HRo.out; omega
    have CAp := Lib.hid (dappend_any V p m (n + pre.length) cap (curF (dropF L (shName s)) (shName s) bs pre.length hd) (shName s) (some ⟨g, off + 64 * pre.length, none⟩) kk (c - 64 * pre.length) ((bs.drop (64 * pre.length)).take kk) v1 (v6.mid q0) (by omega) Hs.out hcap hcc (by omega) (by rw [cur_old hg0, List.length_take]; omega))
    have Hsh := Lib.hid hsh
    have Hkk := Lib.hid hkk
    have Hbl := Lib.hid hbl
    have V1 := Lib.hid v1
    have V2 := Lib.hid v2
    have V3 := Lib.hid v3
    have V4 := Lib.hid v4
    have V5 := Lib.hid v5
    have V6 := Lib.hid v6
    have V7 := Lib.hid v7
    have t3 := v3.cell
    have t5 := v5.cell
    clear v1 v2 v3 v4 v5 v6 v7 hco hshl hsh hcc hbl hkk hi hT hg0 q0 s3 s4 s5 f4
    gi_wp2_with fail
    refine ⟨trivial, ?_⟩
    refine (CallsIn.inRound l (callsIn_wide.2 CAp.out)).mono ?_
    rintro e V' (⟨_, h4, _⟩ | ⟨rfl, _, hd', hD', hF'⟩)
    ·exfalso
     have h1 := Hsh.out
     have h2 := HRo.out
     omega
    ·have nep : ∀ {j : Nat} {t : TypeId} {cs : Array Value}, Blk V j t cs → t ≠ 118 → ¬ (j = p ∨ j = m) := fun hj ht e => by
      obtain ⟨ops, hB⟩ := V1.out.blk
      rcases e with rfl | rfl
      ·exact blk_ne hj hB ht rfl
      ·exact V1.out.map.ne_blk hj rfl
     have kk8 : KeepT 5 V V' := KeepT.of_fr hF' (fun j cs fr e => by
      obtain ⟨ops, hB⟩ := V1.out.blk
      rcases e with rfl | rfl
      ·exact Blk.type hB (by decide) cs fr
      ·exact V1.out.map.is.no_cells cs fr)
     have hg0 : getF (dropF L (shName s)) (shName s) = none := getF_drop_self L (shName s)
     rw [cur_put, cur_old hg0, Hkk.out, cur_step k Hbl.out] at hD'
     have hn' : SaveI w p m n cap (dropF L (shName s)) (shName s) g off k bs g3 w5.heap.size (pre ++ [pre.length]) V' := by
      refine ⟨⟨hd', ?_⟩, V2.out.trans hF', hF'.blk V3.out (nep V3.out (by decide)), hF'.blk V4.out (nep V4.out (by decide)), hF'.blk V5.out (nep V5.out (by decide)), V6.out.keep kk8, cs, hF'.blk V7.out (nep V7.out (by decide))⟩
      rw [List.length_append, List.length_singleton]
      unfold curF
      rw [if_neg (by omega)]
      exact hD'
     have hbx : V'.heap[w5.heap.size]? = V.heap[w5.heap.size]? := hF'.block _ V7.out.lt (nep V7.out (by decide))
     have Hn' := Lib.hid hn'
     have Hbx := Lib.hid hbx
     have Hkf := Lib.hid (keepsFrom_fr (B := (w5.alloc (.cells #[.slice (some ⟨g, off, none⟩) k c] 38)).heap.size) hF' (by simp; omega) (by simp; omega))
     clear nep kk8 hg0 hD' hn' hbx hF' t3 t5
     gi_wp2
     exact ⟨Hkf.out, Hbx.out, Hn'.out⟩
   case done =>
    intro xs U hS hi hK
    rw [World.size_alloc] at hK
    obtain ⟨⟨hd, u1⟩, u2, u3, u4, u5, u6, cs, u7⟩ := hi
    have hbl : bs.length = k := by have := u6.sl.1; simpa [u8s] using this
    obtain ⟨hx1, hx2, hx3⟩ := hS
    have hg0 : getF (dropF L (shName s)) (shName s) = none := getF_drop_self L (shName s)
    have hshl : (shName s).length = s.length + 1 := by unfold shName; simp
    have ecur : curF (dropF L (shName s)) (shName s) bs xs.length hd = putF (dropF L (shName s)) (shName s) hd bs := by
     unfold curF
     rw [if_neg (by omega), List.take_of_length_le (by omega)]
    rw [ecur] at u1
    have hgs : getF (putF (dropF L (shName s)) (shName s) hd bs) (shName s) = some (shName s, hd, bs) := by rw [getF_put, if_pos rfl]
    have hcx := put_costs (hd := hd) hg0 bs
    have HRo : Hid ((costs (dropF L (shName s)) : Int) + (16 + (s.length + 1) + k) ≤ cap) := Lib.hid (by have h1 := HR.out; have h2 := Hfr.out; omega)
    have hcc : (costs (putF (dropF L (shName s)) (shName s) hd bs) : Int) ≤ cap := by have := HRo.out; rw [hcx, hbl, hshl]; omega
    have hne : s ≠ shName s := fun e => by have := congrArg List.length e; omega
    have hos : okName s = true := Hos.out
    have CSy := Lib.hid (dsync_any U p m (n + xs.length) cap _ (shName s) u1 Hs.out (by rw [hgs]; rfl) hcap hcc)
    have CRn := Lib.hid (fun W h => drename_any W p m (n + xs.length) cap _ (shName s) s (shName s, hd, bs) h hgs Hs.out hos hne hcap hcc (by omega))
    have hcr := costs_ren (L := putF (dropF L (shName s)) (shName s) hd bs) (t := s) u1.keys hne hgs
    have Hcr := Lib.hid (show (costs (putF (dropF (putF (dropF L (shName s)) (shName s) hd bs) (shName s)) s hd bs) : Int) ≤ cap by have hcr' : costs (putF (dropF (putF (dropF L (shName s)) (shName s) hd bs) (shName s)) s hd bs) + (shName s).length + costOf (putF (dropF L (shName s)) (shName s) hd bs) s = costs (putF (dropF L (shName s)) (shName s) hd bs) + s.length := hcr; omega)
    have efin : putF (dropF (putF (dropF L (shName s)) (shName s) hd bs) (shName s)) s hd bs = putF (dropF L (shName s)) s hd bs := by rw [drop_put, dropF_none (getF_none.1 hg0)]
    have Hefin := Lib.hid efin
    have Hx := Lib.hid (show n + xs.length + 1 ≤ n + 100000 by omega)
    have U1 := Lib.hid u1
    have U2 := Lib.hid u2
    have U3 := Lib.hid u3
    have U4 := Lib.hid u4
    have U5 := Lib.hid u5
    have HK := Lib.hid hK
    have t3 := u3.cell
    have t5 := u5.cell
    clear u1 u2 u3 u4 u5 u6 u7 hK hcr efin hcx hcc hgs ecur hx1 hx2 hx3 hne hos hbl hshl hg0 s3 s4 s5 f4
    have nep : ∀ {V : World} {j n : Nat} {l : List DF} {t : TypeId} {cs : Array Value}, DiskAt V p m n cap l → Blk V j t cs → t ≠ 118 → ¬ (j = p ∨ j = m) := fun hd hj ht e => by
     obtain ⟨ops, hB⟩ := hd.blk
     rcases e with rfl | rfl
     ·exact blk_ne hj hB ht rfl
     ·exact hd.map.ne_blk hj rfl
    gi_wp2_with fail
    refine ⟨trivial, ?_⟩
    refine (callsIn_wide.2 CSy.out).mono ?_
    rintro e U' ⟨rfl, hD', hF'⟩
    have U3' := Lib.hid (hF'.blk U3.out (nep U1.out U3.out (by decide)))
    have U4' := Lib.hid (hF'.blk U4.out (nep U1.out U4.out (by decide)))
    have U5' := Lib.hid (hF'.blk U5.out (nep U1.out U5.out (by decide)))
    have U2' := Lib.hid (U2.out.trans hF')
    have HK' : Hid (U'.heap[w5.heap.size + 1]? = some (.deferred (some []))) := Lib.hid ((hF'.block _ (heap_lt HK.out) (by omega)).trans HK.out)
    have CR' := Lib.hid (CRn.out U' hD')
    have hD2 := Lib.hid hD'
    clear hD' hF' t3 t5 U3 U4 U5 U2 HK CSy CRn
    have t3 := U3'.out.cell
    have t5 := U5'.out.cell
    gi_wp2_with fail
    refine ⟨trivial, ?_⟩
    refine (callsIn_wide.2 CR'.out).mono ?_
    rintro e U'' (⟨_, h4, _⟩ | ⟨rfl, _, hD', hF'⟩)
    ·exfalso
     have h1 := Hcr.out
     have h2 : cap < costs (putF (dropF (putF (dropF L (shName s)) (shName s) hd bs) (shName s)) s hd bs) := h4
     omega
    ·rw [Hefin.out] at hD'
     have U4'' := Lib.hid (hF'.blk U4'.out (nep hD2.out U4'.out (by decide)))
     have U2'' := Lib.hid (U2'.out.trans hF')
     have HK'' : Hid (U''.heap[w5.heap.size + 1]? = some (.deferred (some []))) := Lib.hid ((hF'.block _ (heap_lt HK'.out) (by omega)).trans HK'.out)
     have HD' := Lib.hid hD'
     have t4 := U4''.out.cell
     have tf := U4''.out.frozen
     clear hD' hF' t3 t5
     gi_wp2
     have hne4 : g3 + 1 ≠ w5.heap.size + 1 := fun e => by
      have h1 := U4''.out
      unfold Blk at h1
      rw [e, HK''.out] at h1
      cases h1
     have hKf : (U''.setCell ⟨g3 + 1, 0, none⟩ (I 0)).heap[w5.heap.size + 1]? = some (.deferred (some [])) := (Below.heap_setCell _ _ _ _ (fun e => hne4 e.symm)).trans HK''.out
     refine ⟨by simp, .inl ⟨_, _, rfl, run_takeDeferred hKf, ?_⟩⟩
     refine ⟨_, res_cell rfl _ _ (g3 + 1) 0 rfl ?_, .inr ⟨rfl, ?_, hd, n + xs.length + 1, Hx.out, ?_, ?_⟩⟩
     ·have h1 := (U4''.out.set_ 0 (I 0)).grown (grownBy_putObj' _ _ (.deferred none)) (fun e => hne4 (Option.some.inj e))
      exact h1.cell 0
     ·have h1 := HR.out
      have h2 := Hfr.out
      omega
     ·exact (HD'.out.setCell U4''.out (by decide) (by decide) 0 _).putObj _ hKf rfl (by omega) (by omega)
     ·exact (U2''.out.far (by show w.heap.size ≤ g3 + 1; rw [Hg3.out]; exact Nat.le_succ _) _).putObj (by omega) _
   case stop =>
    rintro c pre U _ hf _
    exact hf.elim
end Go.Proofs.YtcednfmkiaelnaaGreatDoor

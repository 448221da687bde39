/-
  Texts merged: PairLike, PairRenG, PairStP. What each law says and asks stands at its head.
-/
import Derived.Test.YtphnfcgdpdimbaaGreatDoorRKitMt
import Derived.Test.YtphnfcgdpdimbaaGreatDoorRKitLb
import Derived.Test.YtphnfcgdpdimbaaGreatDoorRKitRn
import Derived.Test.YtphnfcgdpdimbaaGreatDoorRKitPb
namespace Go.Proofs.YtphnfcgdpdimbaaGreatDoor
open Go.RowKit Go.Shelf
open RenLaw (at9 bestGo bestR renOf)
theorem below_fr {w0 w w' : World} {b0 : Nat} {q mb lm pm : Nat} {A : Option Addr} {n c : Nat} {l : List Chg3} {kp kl : Nat} {f : Int → Option Ren} {F : List UInt8 → Option Hd} {R : List (List UInt8)} (hM : MatAt b0 w q mb lm pm A n c l kp kl f F R) (hB : Below b0 w0 w) (hf : Fr (EM mb lm pm A) w w') (hs : b0 ≤ w.heap.size) : Below b0 w0 w' :=
 hB.trans (hf.below hs (fun k hk => (hM.lts k hk).1))
def RetLike (b0 q mb lm pm : Nat) (A : Option Addr) (n c : Nat) (L : List Chg3) (G : List Nat) (i a kp kl : Nat) (f : Int → Option Ren) (R : List (List UInt8)) (w : World) (e : Ending) (w' : World) : Prop :=
 Fr (EM mb lm pm A) w w' ∧ match bestR L (rdOf R) G i with
  | .error z => e = .returned (I z) ∧ (z != 0) = true
  | .ok b => e = .returned (I 0) ∧ ∃ kl' F', kl' ≤ kl + 1 + n ∧ ((¬ 50 ≤ b.2 ∧ MatAt b0 w' q mb lm pm A n c (G.map (at9 L)) kp kl' f F' R) ∨
   (50 ≤ b.2 ∧ ∃ g, G[b.1]? = some g ∧ MatAt b0 w' q mb lm pm A (n - 1) c ((G.eraseIdx b.1).map (at9 L)) (kp + 1) kl' (upd f a (some (renOf L i (g, b.2)))) F' R))
theorem getZ_ne (id : List UInt8) : (getZ id != 0) = true := by unfold getZ; split <;> rfl
theorem _root_.Go.Proofs.YtphnfcgdpdimbaaGreatDoor.Blk.fr {E : Nat → Prop} {w w' : World} {g : Nat} {t : TypeId} {cs : Array Value} (hb : Blk w g t cs) (hf : Fr E w w') (hg : ¬ E g) : Blk w' g t cs := hf.blk hb hg
theorem bestR_cons {L : List Chg3} {R : List (List UInt8)} {G : List Nat} {i : Nat} (hG : G ≠ []) {raw : List UInt8} (hr : getS R (at9 L i).2.2 = some raw) : bestR L (rdOf R) G i = bestGo L (rdOf R) raw.tail G 0 (0, -1) := by
 unfold bestR
 rw [if_neg hG, rdOf_some hr]
theorem bestR_err {L : List Chg3} {R : List (List UInt8)} {G : List Nat} {i : Nat} (hG : G ≠ []) (hr : getS R (at9 L i).2.2 = none) : bestR L (rdOf R) G i = .error (getZ (at9 L i).2.2) := by
 unfold bestR
 rw [if_neg hG, rdOf_none hr]
theorem bestGo_err1 {L : List Chg3} {R : List (List UInt8)} {own : List UInt8} {G : List Nat} {k g : Nat} {b : Nat × Int} (hg : G[k]? = some g) (hr : getS R (at9 L g).2.1 = none) : bestGo L (rdOf R) own (G.drop k) k b = .error (getZ (at9 L g).2.1) := by
 obtain ⟨hk, e⟩ := List.getElem?_eq_some_iff.1 hg
 rw [List.drop_eq_getElem_cons hk, e, bestGo, rdOf_none hr]
theorem bestGo_ok1 {L : List Chg3} {R : List (List UInt8)} {own : List UInt8} {G : List Nat} {k g : Nat} {b : Nat × Int} {raw : List UInt8} (hg : G[k]? = some g) (hr : getS R (at9 L g).2.1 = some raw) : bestGo L (rdOf R) own (G.drop k) k b = bestGo L (rdOf R) own (G.drop (k + 1)) (k + 1) (if b.2 < LineLaw.simC (LinesLaw.lns raw.tail) (LinesLaw.lns own) then (k, LineLaw.simC (LinesLaw.lns raw.tail) (LinesLaw.lns own)) else b) := by
 obtain ⟨hk, e⟩ := List.getElem?_eq_some_iff.1 hg
 rw [List.drop_eq_getElem_cons hk, e, bestGo, rdOf_some hr]
theorem eraseIdx_map9 {α β : Type} (f : α → β) : ∀ (l : List α) (k : Nat), (l.map f).eraseIdx k = (l.eraseIdx k).map f
 | [], _ => rfl
 | a :: l, 0 => rfl
 | a :: l, k + 1 => by
  rw [List.map_cons, List.eraseIdx_cons_succ, List.eraseIdx_cons_succ, eraseIdx_map9 f l k, List.map_cons]
set_option maxHeartbeats 8000000 in
set_option maxRecDepth 100000 in
theorem like_any (w0 w : World) (q p pk dm dn mb lm pm n c kp kl a i : Nat) (cap : Int) (A : Option Addr) (L : List Chg3) (G : List Nat) (f : Int → Option Ren) (F : List UInt8 → Option Hd) (R : List (List UInt8)) (d : Chg3)
  (hM : MatAt w0.heap.size w q mb lm pm A n c (G.map (at9 L)) kp kl f F R) (hS : StP w0 q p pk dm dn cap R) (hX : MaxL w0) (hB : Below w0.heap.size w0 w) (hd : at9 L i = d) (hdl : d.2.2.length ≤ 1000000000) (hol : ∀ g ∈ G, (at9 L g).2.1.length ≤ 1000000000) (hn : n ≤ 1000) (hkl : kl ≤ 900000) (ha : a ≤ 1000000000) (hkp : kp ≤ 1000000000) :
  Calls Tryz.prog 60 #[.pointer (some ⟨mb, 0, none⟩), I a, .agg #[S d.1, S d.2.1, S d.2.2]] w (RetLike w0.heap.size q mb lm pm A n c L G i a kp kl f R w) := by
 have hGl : G.length = n := by have := hM.len; simpa using this
 have b1 := balloc (Below.refl _ w) (.cells #[S d.1, S d.2.1, S d.2.2] 124)
 have HM1 := Lib.hid (hM.step b1)
 have Hbox := Lib.hid (Blk.new w 124 #[S d.1, S d.2.1, S d.2.2])
 have B1 := Lib.hid b1
 have HB1 := Lib.hid (bstep hB b1)
 obtain ⟨W, hW⟩ : ∃ W, W = w.alloc (.cells #[S d.1, S d.2.1, S d.2.2] 124) := ⟨_, rfl⟩
 obtain ⟨bx, hbx⟩ : ∃ bx, bx = w.heap.size := ⟨_, rfl⟩
 rw [← hW] at HM1 Hbox B1 HB1
 rw [← hbx] at Hbox
 have HS := Lib.hid hS
 have HX := Lib.hid hX
 have r1 := HM1.out.blk.cell
 have r5 := Hbox.out.cell
 have HGl := Lib.hid hGl
 have Hbe : Hid (¬ EM mb lm pm A bx) := Lib.hid (fun h => by have := (hM.lts bx h).2; omega)
 clear hM b1 hS hX hGl
 go_enter Tryz.func60, Tryz.ntmps60
 go_upto_region 1 with fail
 simp only [← hbx]
 rw [← hW]
 clear hW hbx
 by_cases h0 : n = 0
 ·subst h0
  have hG : G = [] := List.eq_nil_of_length_eq_zero HGl.out
  go_wp2
  go_ret
  refine ⟨Fr.of_below B1.out, ?_⟩
  have e : bestR L (rdOf R) G i = .ok (0, -1) := by unfold bestR; rw [if_pos hG]
  rw [e]
  exact ⟨rfl, kl, F, by omega, .inl ⟨by simp, HM1.out⟩⟩
 ·obtain ⟨gA, rfl⟩ : ∃ g, A = some ⟨g, 0, none⟩ := by
   rcases HM1.out.row.2 with ⟨_, h1⟩ | ⟨g, _, _, hv, _⟩
   ·exact absurd h1 h0
   ·injection hv with h1
    exact ⟨g, h1⟩
  have hz : ((n : Int) == 0) = false := by simp; omega
  have hG : G ≠ [] := fun e => h0 (by rw [← HGl.out, e]; rfl)
  have CR := Lib.hid (mread_any w0.heap.size W q p pk dm dn mb lm pm n c kp kl cap (some ⟨gA, 0, none⟩) (G.map (at9 L)) f F R d.2.2 HM1.out (HS.out.step HB1.out) (HX.out.step HB1.out) hdl (by omega))
  go_wp2_with fail
  refine CR.out.mono ?_
  rintro e w2 ⟨⟨kl2, F2, hkl2, hM2⟩, hF2, hret⟩
  have HM2 := Lib.hid hM2
  have HF2 := Lib.hid hF2
  have HB2 := Lib.hid (below_fr HM1.out HB1.out (fr_lm hF2) HB1.out.size)
  have Hbox2 := Lib.hid (hF2.blk Hbox.out (fun e => Hbe.out (.inr (.inl e))))
  rcases hg : getS R d.2.2 with _ | rawo
  ·rw [hg] at hret
   have hret' : e = _ := hret
   subst hret'
   have Hg := Lib.hid hg
   have hzz := getZ_ne d.2.2
   obtain ⟨z, hz9⟩ : ∃ z, getZ d.2.2 = z := ⟨_, rfl⟩
   rw [hz9] at hzz ⊢
   have Hz := Lib.hid hz9
   clear hM2 hF2 hg hret hz9 CR r1 r5
   go_wp2
   go_ret
   refine ⟨(Fr.of_below B1.out).trans (fr_lm HF2.out), ?_⟩
   rw [bestR_err hG (by rw [hd]; exact Hg.out), hd, Hz.out]
   exact ⟨rfl, hzz⟩
  ·rw [hg] at hret
   obtain ⟨ho, rfl, hoc, ho1, hoS⟩ := hret
   have HoS := Lib.hid hoS
   have Hg := Lib.hid hg
   have r2 := HM2.out.blk.cell
   clear hM2 hF2 hg hoS CR r1 r5
   have HBg : Hid (bestGo L (rdOf R) rawo.tail (G.drop 0) 0 (((0 : Nat) : Nat), (-1 : Int)) = bestR L (rdOf R) G i) := Lib.hid (bestR_cons hG (by rw [hd]; exact Hg.out)).symm
   obtain ⟨hoA, hon, hocc⟩ := ho
   go_wp2
   clear r2
   go_loopw [9, 10, 37] (fun s9 s10 s37 wr => ∃ (k b : Nat) (m : Int) (kl' : Nat) (F' : List UInt8 → Option Hd), k ≤ n ∧ s9 = .int .i64 b ∧ s10 = .int .i64 m ∧ s37 = .int .i64 k ∧ Hid (kl' ≤ kl + 1 + k) ∧ Hid (MatAt w0.heap.size wr q mb lm pm (some ⟨gA, 0, none⟩) n c (G.map (at9 L)) kp kl' f F' R) ∧ Hid (Fr (EM mb lm pm (some ⟨gA, 0, none⟩)) w2 wr) ∧ Hid (bestGo L (rdOf R) rawo.tail (G.drop k) k (b, m) = bestR L (rdOf R) G i) ∧ -1 ≤ m ∧ m ≤ 100 ∧ b ≤ n) (fun _ _ s37 _ => n - (intOf s37).toNat)
   case atStart => exact ⟨0, 0, -1, kl2, F2, Nat.zero_le _, rfl, rfl, rfl, Lib.hid hkl2, HM2, Lib.hid (Fr.refl _ _), HBg, by omega, by omega, by omega⟩
   case round =>
    obtain ⟨k, b, m, kl3, F3, hk, rfl, rfl, rfl, Hkl, HM, HF, HBk, hm1, hm2, hbn⟩ := hrel
    by_cases hlt : k < n
    ·obtain ⟨g9, hg9⟩ : ∃ g9, G[k]? = some g9 := ⟨_, List.getElem?_eq_getElem (by rw [HGl.out]; exact hlt)⟩
     obtain ⟨x, hx⟩ : ∃ x, x = at9 L g9 := ⟨_, rfl⟩
     obtain ⟨y0, y1, y2⟩ := own_chg HM.out.row (k := k) (x := x) (by rw [List.getElem?_map, hg9, hx]; rfl)
     have hxl : x.2.1.length ≤ 1000000000 := by rw [hx]; exact hol g9 (List.mem_of_getElem? hg9)
     have b3 := balloc (Below.refl _ wr) (.cells #[S x.1, S x.2.1, S x.2.2] 124)
     have r3 := (Blk.new wr 124 #[S x.1, S x.2.1, S x.2.2]).cell
     have HMa := Lib.hid (HM.out.step b3)
     have HBa := Lib.hid (bstep (below_fr HM2.out HB2.out HF.out HB2.out.size) b3)
     have HFa := Lib.hid (HF.out.step b3)
     have CR3 := Lib.hid (mread_any w0.heap.size _ q p pk dm dn mb lm pm n c kp kl3 cap (some ⟨gA, 0, none⟩) (G.map (at9 L)) f F3 R x.2.1 HMa.out (HS.out.step HBa.out) (HX.out.step HBa.out) hxl (by have := Hkl.out; omega))
     have Hg9 := Lib.hid hg9
     have Hx9 := Lib.hid hx
     clear hg9 hx b3
     go_wp2_with fail
     refine CR3.out.mono ?_
     rintro e w4 ⟨⟨kl4, F4, hkl4, hM4⟩, hF4, hret4⟩
     have HM4 := Lib.hid hM4
     have HF4 := Lib.hid (HFa.out.trans (fr_lm hF4))
     have Hkl4 : Hid (kl4 ≤ kl + 1 + (k + 1)) := Lib.hid (by have := Hkl.out; omega)
     rcases hg4 : getS R x.2.1 with _ | raw4
     ·rw [hg4] at hret4
      have hret' : e = _ := hret4
      subst hret'
      have Hg4 := Lib.hid hg4
      have hzz := getZ_ne x.2.1
      obtain ⟨z, hz9⟩ : ∃ z, getZ x.2.1 = z := ⟨_, rfl⟩
      rw [hz9] at hzz ⊢
      have Hz := Lib.hid hz9
      clear hM4 hF4 hg4 hret4 hz9 CR3 y0 y1 y2 r3
      go_wp2
      go_ret
      refine ⟨(Fr.of_below B1.out).trans ((fr_lm HF2.out).trans HF4.out), ?_⟩
      have e9 := HBk.out
      rw [bestGo_err1 Hg9.out (by rw [← Hx9.out]; exact Hg4.out), ← Hx9.out, Hz.out] at e9
      rw [← e9]
      exact ⟨rfl, hzz⟩
     ·rw [hg4] at hret4
      obtain ⟨⟨h4A, h4n, h4c⟩, rfl, h4a, h4b, h4S⟩ := hret4
      have H4S := Lib.hid h4S
      have HoS4 := Lib.hid (HoS.out.fr HF4.out)
      have CS := Lib.hid (similarC_any (⟨h4A, h4n, h4c⟩ : Hd).a (⟨hoA, hon, hocc⟩ : Hd).a h4n hon h4c hocc (LinesLaw.lns raw4.tail) (LinesLaw.lns rawo.tail) w4 h4S.1 HoS4.out.1 h4a hoc (by have : h4n ≤ 1048576 := h4b; omega) (by have : hon ≤ 1048576 := ho1; omega))
      have hsr := LineLaw.simC_range (LinesLaw.lns raw4.tail) (LinesLaw.lns rawo.tail)
      have e9 := HBk.out
      rw [bestGo_ok1 Hg9.out (by rw [← Hx9.out]; exact hg4)] at e9
      obtain ⟨v, hv⟩ : ∃ v, LineLaw.simC (LinesLaw.lns raw4.tail) (LinesLaw.lns rawo.tail) = v := ⟨_, rfl⟩
      rw [hv] at hsr CS e9
      have HE9 := Lib.hid e9
      clear hM4 hF4 hg4 h4S hv e9 HBk CR3 y0 y1 y2 r3
      go_wp2_with fail
      refine CS.out.mono ?_
      rintro e w5 ⟨rfl, b5⟩
      have HM5 := Lib.hid (HM4.out.step b5)
      have HF5 := Lib.hid (HF4.out.step b5)
      clear b5 CS
      by_cases hgt : m < v
      ·have hd9 : decide (m < v) = true := decide_eq_true hgt
       have e9 := HE9.out
       rw [if_pos (show ((b, m) : Nat × Int).2 < v from hgt)] at e9
       have HE := Lib.hid e9
       clear e9 HE9
       go_wp2
       go_roundw
       case rel => exact ⟨k + 1, k, v, kl4, F4, hlt, rfl, rfl, by go_num, Hkl4, HM5, HF5, HE, by omega, by omega, by omega⟩
       case measure => simp [intOf]; omega
      ·have hd9 : decide (m < v) = false := decide_eq_false hgt
       have e9 := HE9.out
       rw [if_neg (show ¬ ((b, m) : Nat × Int).2 < v from hgt)] at e9
       have HE := Lib.hid e9
       clear e9 HE9
       go_wp2
       go_roundw
       case rel => exact ⟨k + 1, b, m, kl4, F4, hlt, rfl, rfl, by go_num, Hkl4, HM5, HF5, HE, by omega, by omega, by omega⟩
       case measure => simp [intOf]; omega
    ·obtain rfl : k = n := by omega
     have e9 := HBk.out
     rw [List.drop_of_length_le (by rw [HGl.out]; exact Nat.le_refl _), bestGo] at e9
     have HE := Lib.hid e9.symm
     have HFF : Hid (Fr (EM mb lm pm (some ⟨gA, 0, none⟩)) w wr) := Lib.hid ((Fr.of_below B1.out).trans ((fr_lm HF2.out).trans HF.out))
     clear e9 HBk
     by_cases h5 : 50 ≤ m
     ·have hd9 : decide (50 ≤ m) = true := decide_eq_true h5
      obtain ⟨hb1, hb2⟩ := RenLaw.bestR_range HE.out h5
      obtain ⟨g9, hg9⟩ : ∃ g9, G[b]? = some g9 := ⟨_, List.getElem?_eq_getElem hb2⟩
      obtain ⟨n', rfl⟩ : ∃ n', k = n' + 1 := ⟨k - 1, by omega⟩
      have CP := Lib.hid (mpairG_any w0.heap.size wr q mb lm pm gA n' c kp kl3 b a (G.map (at9 L)) f F3 R (at9 L g9) d m HM.out (by rw [List.getElem?_map, hg9]; rfl) ha hkp)
      have r9 := (Hbox2.out.fr HF.out Hbe.out).cell
      have Hg9 := Lib.hid hg9
      clear hg9
      go_wp2_with fail
      refine CP.out.mono ?_
      rintro e w9 ⟨rfl, hM9, hF9⟩
      have HM9 := Lib.hid hM9
      have HF9 := Lib.hid hF9
      clear hM9 hF9 CP r9
      go_wp2
      go_ret
      refine ⟨HFF.out.trans HF9.out, ?_⟩
      rw [HE.out]
      refine ⟨rfl, kl3, F3, Hkl.out, .inr ⟨h5, g9, Hg9.out, ?_⟩⟩
      have h9 := HM9.out
      rw [eraseIdx_map9] at h9
      unfold renOf
      rw [hd]
      exact h9
     ·have hd9 : decide (50 ≤ m) = false := decide_eq_false h5
      go_wp2
      go_ret
      refine ⟨HFF.out, ?_⟩
      rw [HE.out]
      exact ⟨rfl, kl3, F3, Hkl.out, .inl ⟨fun h => by have h6 : 50 ≤ m := h; omega, HM.out⟩⟩
end Go.Proofs.YtphnfcgdpdimbaaGreatDoor
namespace Go.Proofs.YtphnfcgdpdimbaaGreatDoor
open Go.RowKit Go.Shelf
open RenLaw (at9 G0 F0 St exact1 exacts take9 likes like1 s0 sE renM pairsOf fOf renOf bestR)
theorem findIdx_map9 {α β : Type} (f : α → β) (p : β → Bool) : ∀ l : List α, (l.map f).findIdx? p = l.findIdx? (fun x => p (f x))
 | [] => rfl
 | a :: l => by
  rw [List.map_cons, List.findIdx?_cons, List.findIdx?_cons, findIdx_map9 f p l]
theorem upd_fOf {l : List Chg3} {s2 : Nat → Option (Nat × Int)} {j i : Nat} (h : (F0 l)[j]? = some i) (p : Nat × Int) : upd (fOf l s2) (j : Int) (some (renOf l i p)) = fOf l (RenLaw.upN s2 i (some p)) := by
 funext z
 rw [RenLaw.fOf_upd h]
 rfl
theorem ren_take {b0 q mb lm pm c kp kl j i k g : Nat} {sc : Int} {A : Option Addr} {l : List Chg3} {s : St} {F : List UInt8 → Option Hd} {R : List (List UInt8)} {w' : World} (hj : (F0 l)[j]? = some i) (hk : s.1[k]? = some g) (h : MatAt b0 w' q mb lm pm A (s.1.length - 1) c ((s.1.map (at9 l)).eraseIdx k) (kp + 1) kl (upd (fOf l s.2) (j : Int) (some ((at9 l g).1, (at9 l i).1, sc))) F R) :
  MatAt b0 w' q mb lm pm A (take9 s i k sc).1.length c ((take9 s i k sc).1.map (at9 l)) (kp + 1) kl (fOf l (take9 s i k sc).2) F R := by
 have e := upd_fOf (s2 := s.2) hj (g, sc)
 unfold renOf at e
 rw [e, eraseIdx_map9] at h
 have el : (s.1.eraseIdx k).length = s.1.length - 1 := by rw [List.length_eraseIdx, if_pos (List.getElem?_eq_some_iff.1 hk).1]
 unfold take9
 rw [hk]
 show MatAt b0 w' q mb lm pm A (s.1.eraseIdx k).length c ((s.1.eraseIdx k).map (at9 l)) (kp + 1) kl _ F R
 rw [el]
 exact h
theorem exact_step {b0 q mb lm pm c kp kl j i : Nat} {A : Option Addr} {l : List Chg3} {s : St} {F : List UInt8 → Option Hd} {R : List (List UInt8)} {w' : World} (hj : (F0 l)[j]? = some i) (h : RetExact b0 q mb lm pm A s.1.length c (s.1.map (at9 l)) kp kl j (fOf l s.2) F R (at9 l i) w') :
  ∃ kp', kp' ≤ kp + 1 ∧ MatAt b0 w' q mb lm pm A (exact1 l s i).1.length c ((exact1 l s i).1.map (at9 l)) kp' kl (fOf l (exact1 l s i).2) F R := by
 unfold RetExact at h
 rw [findIdx_map9] at h
 rcases hf : s.1.findIdx? (fun g => decide ((at9 l g).2.1 = (at9 l i).2.2)) with _ | k
 ·rw [hf] at h
  have e : exact1 l s i = s := by unfold exact1; rw [hf]
  rw [e]
  exact ⟨kp, by omega, h⟩
 ·rw [hf] at h
  have e : exact1 l s i = take9 s i k 100 := by unfold exact1; rw [hf]
  rw [e]
  obtain ⟨x, hx, h⟩ := h
  refine ⟨kp + 1, by omega, ?_⟩
  have hk : k < s.1.length := by have := (List.getElem?_eq_some_iff.1 hx).1; simpa using this
  rw [List.getElem?_map, List.getElem?_eq_getElem hk] at hx
  obtain rfl := Option.some.inj hx
  exact ren_take hj (List.getElem?_eq_getElem hk) h
def RetRen (l : List Chg3) (R : List (List UInt8)) (w : World) (e : Ending) (w' : World) : Prop :=
 (match renM l (rdOf R) with
  | .error z => e = .returned (.tuple #[.slice none 0 0, I z]) ∧ (z != 0) = true
  | .ok rs => ∃ (A' : Option Addr) (c' : Nat), e = .returned (.tuple #[.slice A' rs.length c', I 0]) ∧ Sl w' 3 A' rs.length (rns rs)) ∧ Below w.heap.size w w'
theorem exact1_sub {l : List Chg3} {s : St} {i : Nat} {P : Nat → Prop} (h : ∀ g ∈ s.1, P g) : ∀ g ∈ (exact1 l s i).1, P g := by
 unfold exact1
 split
 ·exact h
 ·exact fun g hg => h g (List.mem_of_mem_eraseIdx hg)
theorem exact1_len {l : List Chg3} {s : St} {i N : Nat} (h : s.1.length ≤ N) : (exact1 l s i).1.length ≤ N := by
 unfold exact1
 split
 ·exact h
 ·refine Nat.le_trans ?_ h
  show (s.1.eraseIdx _).length ≤ _
  rw [List.length_eraseIdx]
  split <;> omega
theorem exacts_cons {l : List Chg3} {j i : Nat} {s : St} (hj : (F0 l)[j]? = some i) : exacts l ((F0 l).drop j) s = exacts l ((F0 l).drop (j + 1)) (exact1 l s i) := by
 obtain ⟨h, e⟩ := List.getElem?_eq_some_iff.1 hj
 rw [List.drop_eq_getElem_cons h, e, exacts]
theorem likes_cons {l : List Chg3} {rd : RenLaw.Rd} {j i : Nat} {s : St} (hj : (F0 l)[j]? = some i) : likes l rd ((F0 l).drop j) s = (match like1 l rd s i with
  | .error z => .error z
  | .ok s' => likes l rd ((F0 l).drop (j + 1)) s') := by
 obtain ⟨h, e⟩ := List.getElem?_eq_some_iff.1 hj
 rw [List.drop_eq_getElem_cons h, e, likes]
 cases like1 l rd s i <;> rfl
set_option maxHeartbeats 16000000 in
set_option maxRecDepth 100000 in
theorem renamesG_any (w : World) (q p0 pk dm dn n c : Nat) (cap : Int) (A : Option Addr) (l : List Chg3) (R : List (List UInt8)) (hA : Sl w 3 A n (cgs l)) (hn : n ≤ 100) (hS : StP w q p0 pk dm dn cap R) (hX : MaxL w) (hl : ∀ x ∈ l, x.2.1.length ≤ 1000000000 ∧ x.2.2.length ≤ 1000000000) :
  Calls Tryz.prog 16 #[.pointer (some ⟨q, 0, none⟩), .slice A n c] w (RetRen l R w) := by
 obtain ⟨i0, hi0, hz0, hz1, hz2⟩ := info_parts Tryz.infoRen
 have hmm := @run_makeMap Tryz.prog
 have hll := cgs_count hA
 have C1 := psplit_any 57 #[] (enters_of Tryz.func57 (by kernel_rfl) rfl) goneB A n c l w hA (by omega) (fun x _ W _ => pgone_any x W)
 have hln : (l.filter (fun x => !goneB x)).length ≤ 100 := by
  have h1 := List.length_filter_le (fun x => !goneB x) l
  omega
 have C2 := fun (W : World) (A2 : Option Addr) (n2 c2 : Nat) (h : Sl W 3 A2 n2 (cgs (l.filter (fun x => !goneB x)))) (h2 : n2 ≤ 100) => psplit_any 58 #[] (enters_of Tryz.func58 (by kernel_rfl) rfl) frsB A2 n2 c2 _ W h (by omega) (fun x _ W _ => pfresh_any x W)
 have e1 : l.filter goneB = (s0 l).1.map (at9 l) := (RenLaw.g0_map l).symm
 rw [e1] at C1
 rw [← RenLaw.f0_map l] at C2
 have HC1 := Lib.hid C1
 have HC2 := Lib.hid C2
 have Hln := Lib.hid hln
 have HS := Lib.hid hS
 have HX := Lib.hid hX
 have hg0 : (G0 l).length ≤ 100 := by
  have h1 := List.length_filter_le (fun k => goneB (at9 l k)) (List.range l.length)
  rw [List.length_range] at h1
  show ((List.range l.length).filter _).length ≤ 100
  omega
 have hf0 : (F0 l).length ≤ 100 := by
  have h1 := List.length_filter_le (fun k => frsB (at9 l k)) (List.range l.length)
  rw [List.length_range] at h1
  show ((List.range l.length).filter _).length ≤ 100
  omega
 have HG0 := Lib.hid hg0
 have HF0 := Lib.hid hf0
 have HL : Hid (∀ k, k < l.length → (at9 l k).2.1.length ≤ 1000000000 ∧ (at9 l k).2.2.length ≤ 1000000000) := Lib.hid (fun k hk => by
  rw [RenLaw.at9_of (List.getElem?_eq_getElem hk)]
  exact hl _ (List.getElem_mem hk))
 clear hA hn C1 C2 hln hS hX hl hll e1 hg0 hf0
 go_enter Tryz.func16, Tryz.ntmps16
 go_wp2_with (first
  | (go_at_call 56; (with_reducible refine HC1.out.mono ?_); rintro e w1 ⟨A1, n1, c1, A2, n2, c2, rfl, hn1, hn2, hO1, hO2, _⟩; have Hn1 := Lib.hid hn1; have HO1 := Lib.hid hO1; have HO2 := Lib.hid hO2; have Hn2 : Hid (n2 ≤ 100) := Lib.hid (by rw [hn2]; exact Hln.out); clear hn1 hn2 hO1 hO2)
  | (go_at_call 56; (with_reducible refine (HC2.out w1 A2 n2 c2 HO2.out.sl Hn2.out).mono ?_); rintro e w2 ⟨A3, n3, c3, A4, n4, c4, rfl, hn3, hn4, hO3, hO4, _⟩; have Hn3 := Lib.hid hn3; have HO3 := Lib.hid hO3; clear hn3 hn4 hO3 hO4))
 obtain ⟨z, hz⟩ : ∃ z, z = w2.heap.size := ⟨_, rfl⟩
 obtain ⟨W3, hW3⟩ : ∃ W3, W3 = ((w2.alloc (.map #[] 0)).alloc (.map #[] 0)).alloc (.cells #[.pointer (some ⟨q, 0, none⟩), .slice A1 n1 c1, .map (some z), .map (some (z + 1))] 134) := ⟨_, rfl⟩
 simp only [← hz]
 rw [← hW3]
 obtain rfl : n1 = (s0 l).1.length := by have := Hn1.out; simpa using this
 obtain rfl : n3 = (F0 l).length := by have := Hn3.out; simpa using this
 have b3 : Below w2.heap.size w2 W3 := hW3 ▸ balloc (balloc (balloc (Below.refl _ w2) _) _) _
 have hzw : w.heap.size ≤ z := by have := HO1.out.2.size; have := HO3.out.2.size; omega
 have HM0 : Hid (MatAt w.heap.size W3 q (z + 2) z (z + 1) A1 (s0 l).1.length c1 ((s0 l).1.map (at9 l)) 0 0 (fOf l (s0 l).2) (fun _ => none) R) := Lib.hid (by
  refine ⟨?_, own_step9 HO1.out.1 (bstep HO3.out.2 b3), ?_, ?_, fun _ _ h => (nomatch h), by omega, ⟨by omega, hzw, by omega⟩, by have := HG0.out; show (G0 l).length ≤ _; omega⟩
  ·have h := Blk.new ((w2.alloc (.map #[] 0)).alloc (.map #[] 0)) 134 #[.pointer (some ⟨q, 0, none⟩), .slice A1 (s0 l).1.length c1, .map (some z), .map (some (z + 1))]
   rw [World.size_alloc, World.size_alloc, ← hz] at h
   rw [hW3]
   exact h
  ·have h := MapIs.made pairC (w2.alloc (.map #[] 0))
   rw [World.size_alloc, ← hz] at h
   rw [hW3, show fOf l (s0 l).2 = fun _ => none from RenLaw.fOf_start l]
   exact h.alloc _
  ·have h := MapIs.made linesC w2
   rw [← hz] at h
   rw [hW3]
   exact (h.alloc _).alloc _)
 have HF3 : Hid (SlF (EM (z + 2) z (z + 1) A1) W3 3 A3 (F0 l).length (cgs ((F0 l).map (at9 l)))) := Lib.hid ⟨HO3.out.sl.below b3, fun b off hn e hE => by
  obtain ⟨g, hg, h1, h2⟩ := HO3.out.form hn
  rw [hg] at e
  cases e
  rcases hE with h | h | h | h
  ·omega
  ·omega
  ·omega
  ·have := (HO1.out.1.lt b (by
    cases A1
    ·exact h
    ·exact h)).2
   omega⟩
 have HBw : Hid (Below w.heap.size w W3) := Lib.hid (bstep HO1.out.2 (bstep HO3.out.2 b3))
 clear hz hW3 b3 hzw HO1 HO2 HO3 HC1 HC2 hmm Hn1 Hn2 Hn3
 go_loopw [40] (fun s40 wr => ∃ (j : Nat) (s : St) (kp : Nat), j ≤ (F0 l).length ∧ s40 = .int .i64 j ∧ Hid (exacts l ((F0 l).drop j) s = sE l) ∧ Hid (kp ≤ j) ∧ Hid (∀ g ∈ s.1, g < l.length) ∧ Hid (s.1.length ≤ 100) ∧ Hid (MatAt w.heap.size wr q (z + 2) z (z + 1) A1 s.1.length c1 (s.1.map (at9 l)) kp 0 (fOf l s.2) (fun _ => none) R) ∧ Hid (Fr (EM (z + 2) z (z + 1) A1) W3 wr)) (fun s40 _ => (F0 l).length - (intOf s40).toNat)
 case atStart => exact ⟨0, s0 l, 0, Nat.zero_le _, rfl, Lib.hid rfl, Lib.hid (Nat.le_refl _), Lib.hid (fun g hg => (RenLaw.lt_of_g0 hg).1), HG0, HM0, Lib.hid (Fr.refl _ _)⟩
 case round =>
  obtain ⟨j, s, kp, hj, rfl, HE, Hkp, Hsub, Hsl, HM, HF⟩ := hrel
  have hf0 := HF0.out
  by_cases hlt : j < (F0 l).length
  ·obtain ⟨i, hi⟩ : ∃ i, (F0 l)[j]? = some i := ⟨_, List.getElem?_eq_getElem hlt⟩
   obtain ⟨b, off, x, e, _, hx, x0, x1, x2⟩ := (HF3.out.fr HF.out).1.cg hlt
   subst e
   have hxi : at9 l i = x := by
    rw [List.getElem?_map, hi] at hx
    exact Option.some.inj hx
   have b5 := balloc (Below.refl _ wr) (.cells #[S x.1, S x.2.1, S x.2.2] 124)
   have r5 := (Blk.new wr 124 #[S x.1, S x.2.1, S x.2.2]).cell
   have CE := Lib.hid (exactG_any w.heap.size _ q (z + 2) z (z + 1) s.1.length c1 kp 0 j A1 (s.1.map (at9 l)) (fOf l s.2) (fun _ => none) R x (HM.out.step b5) (by omega) (by have := Hkp.out; omega))
   have HB5 := Lib.hid b5
   have Hxi := Lib.hid hxi
   have Hi := Lib.hid hi
   clear hx hxi hi b5
   go_wp2_with fail
   refine CE.out.mono ?_
   rintro e w6 ⟨rfl, hr6, hF6⟩
   have hr6' : RetExact w.heap.size q (z + 2) z (z + 1) A1 s.1.length c1 (s.1.map (at9 l)) kp 0 j (fOf l s.2) (fun _ => none) R (at9 l i) w6 := by rw [Hxi.out]; exact hr6
   obtain ⟨kp', hkp', hM6⟩ := exact_step Hi.out hr6'
   have HM6 := Lib.hid hM6
   have HF6 := Lib.hid ((HF.out.step HB5.out).trans hF6)
   have Hkp6 : Hid (kp' ≤ j + 1) := Lib.hid (by have := Hkp.out; omega)
   have HE6 : Hid (exacts l ((F0 l).drop (j + 1)) (exact1 l s i) = sE l) := Lib.hid (by rw [← exacts_cons Hi.out]; exact HE.out)
   have Hsub6 := Lib.hid (exact1_sub (l := l) (i := i) Hsub.out)
   have Hsl6 := Lib.hid (exact1_len (l := l) (i := i) Hsl.out)
   clear hr6 hr6' hM6 hF6 CE r5 x0 x1 x2 hkp'
   go_wp2
   go_roundw
   case rel => exact ⟨j + 1, exact1 l s i, kp', hlt, by go_num, HE6, Hkp6, Hsub6, Hsl6, HM6, HF6⟩
   case measure => simp [intOf]; omega
  ·obtain rfl : j = (F0 l).length := by omega
   have hse : s = sE l := by
    have h := HE.out
    rw [List.drop_length, exacts] at h
    exact h
   subst hse
   have HM1 := HM
   have HFa := HF
   have HSa := Hsub
   have HSl := Hsl
   clear HM0 HE HM HF Hsub Hsl
   go_wp2
   go_loopw [52] (fun s52 wr => ∃ (j : Nat) (s : St) (kp kl : Nat) (F : List UInt8 → Option Hd), j ≤ (F0 l).length ∧ s52 = .int .i64 j ∧ Hid (likes l (rdOf R) ((F0 l).drop j) s = likes l (rdOf R) (F0 l) (sE l)) ∧ Hid (kp ≤ 100 + j) ∧ Hid (kl ≤ 200 * j) ∧ Hid (∀ g ∈ s.1, g < l.length) ∧ Hid (s.1.length ≤ 100) ∧ Hid (MatAt w.heap.size wr q (z + 2) z (z + 1) A1 s.1.length c1 (s.1.map (at9 l)) kp kl (fOf l s.2) F R) ∧ Hid (Fr (EM (z + 2) z (z + 1) A1) W3 wr)) (fun s52 _ => (F0 l).length - (intOf s52).toNat)
   case atStart => exact ⟨0, sE l, kp, 0, fun _ => none, Nat.zero_le _, rfl, Lib.hid rfl, Lib.hid (by have := Hkp.out; omega), Lib.hid (Nat.zero_le _), HSa, HSl, HM1, HFa⟩
   case round =>
    clear HM1 HFa HSa HSl Hkp
    obtain ⟨j, s, kp, kl, F, hj, rfl, HE, Hkp, Hkl, Hsub, Hsl, HM, HF⟩ := hrel
    by_cases hlt : j < (F0 l).length
    ·obtain ⟨i, hi⟩ : ∃ i, (F0 l)[j]? = some i := ⟨_, List.getElem?_eq_getElem hlt⟩
     obtain ⟨b, off, x, e, _, hx, x0, x1, x2⟩ := (HF3.out.fr HF.out).1.cg hlt
     subst e
     have hxi : at9 l i = x := by
      rw [List.getElem?_map, hi] at hx
      exact Option.some.inj hx
     have hil := (RenLaw.lt_of_f0 (List.mem_of_getElem? hi)).1
     have b5 := balloc (Below.refl _ wr) (.cells #[S x.1, S x.2.1, S x.2.2] 124)
     have r5 := (Blk.new wr 124 #[S x.1, S x.2.1, S x.2.2]).cell
     have HB5 := Lib.hid b5
     have Hbx := Lib.hid (Blk.new wr 124 #[S x.1, S x.2.1, S x.2.2])
     have r6 := (HM.out.step b5).blk.cell
     have m6 := (HM.out.step b5).pairs
     have hgk := small_good j (by omega)
     have Hxi := Lib.hid hxi
     have Hi := Lib.hid hi
     have hF := RenLaw.fOf_at (s2 := s.2) hi
     clear hx hxi hi b5
     rcases hp : s.2 i with _ | p
     ·have EF : Hid (fOf l s.2 (j : Int) = none) := Lib.hid (by rw [hF, hp]; rfl)
      have Hp := Lib.hid hp
      clear hp hF
      obtain ⟨w7, hw7⟩ : ∃ w7, w7 = (wr.alloc (.cells #[S x.1, S x.2.1, S x.2.2] 124)).alloc (.cells #[S [], S [], I 0] 71) := ⟨_, rfl⟩
      have b7 : Below wr.heap.size wr w7 := hw7 ▸ balloc (balloc (Below.refl _ wr) _) _
      have HM7 := Lib.hid (HM.out.step b7)
      have HF7 := Lib.hid (HF.out.step b7)
      have r7 : ∀ q, w7.cell? ⟨wr.heap.size, q, none⟩ = #[S x.1, S x.2.1, S x.2.2][q]? := fun q => by
       rw [hw7]
       exact (Hbx.out.alloc _).cell q
      have HB7 := Lib.hid (HBw.out.trans ((HF.out.step b7).below HBw.out.size (fun q hq => (HM.out.lts q hq).1)))
      have hll2 : s.1.length ≤ 1000 := by have := Hsl.out; omega
      have CL := Lib.hid (like_any w w7 q p0 pk dm dn (z + 2) z (z + 1) s.1.length c1 kp kl j i cap A1 l s.1 (fOf l s.2) F R x HM7.out HS.out HX.out HB7.out Hxi.out (by rw [← Hxi.out]; exact (HL.out i hil).2) (fun g hg => (HL.out g (Hsub.out g hg)).1) hll2 (by have := Hkl.out; omega) (by omega) (by have := Hkp.out; omega))
      have Hw7 := Lib.hid hw7
      clear b7 hw7
      go_wp2_with (at_lookup; refine wpList_look_ok _ rfl _ _ 132 rfl pairC Tryz.underlying132 ([], [], 0) (Tryz.zeroRen _) (z + 1) kp _ rfl m6 (j : Int) rfl hgk ?_; rw [EF.out]; simp only [Option.getD_none, Option.isSome_none]; rw [show pairC.vv ([], [], 0) = .agg #[S [], S [], I 0] from rfl])
      rw [← Hw7.out]
      refine CL.out.mono ?_
      rintro e w8 ⟨hF8, hret⟩
      have HF8 := Lib.hid (HF7.out.trans hF8)
      have HB8 : Hid (Below w.heap.size w w8) := Lib.hid (HB7.out.trans (hF8.below HB7.out.size (fun q hq => (HM7.out.lts q hq).1)))
      rcases hbr : bestR l (rdOf R) s.1 i with zz | bb
      ·rw [hbr] at hret
       obtain ⟨rfl, hzz⟩ := hret
       have Hbr := Lib.hid hbr
       clear hF8 hbr CL m6 r6 r5 r7 x0 x1 x2
       go_wp2
       go_ret2
       refine ⟨?_, HB8.out⟩
       have e9 : renM l (rdOf R) = .error zz := by
        unfold renM
        rw [← HE.out, likes_cons Hi.out]
        unfold like1
        rw [Hp.out, Hbr.out]
        rfl
       rw [e9]
       exact ⟨rfl, hzz⟩
      ·rw [hbr] at hret
       obtain ⟨rfl, kl8, F8, hkl8, hM8⟩ := hret
       have Hkl8 : Hid (kl8 ≤ 200 * (j + 1)) := Lib.hid (by have := Hkl.out; have := Hsl.out; omega)
       have HE8 : Hid (likes l (rdOf R) ((F0 l).drop (j + 1)) (if 50 ≤ bb.2 then take9 s i bb.1 bb.2 else s) = likes l (rdOf R) (F0 l) (sE l)) := Lib.hid (by
        rw [← HE.out, likes_cons Hi.out]
        unfold like1
        rw [Hp.out, hbr]
        rfl)
       have HM8 := Lib.hid hM8
       clear hF8 hbr CL m6 r6 r5 r7 x0 x1 x2 hM8
       go_wp2
       go_roundw
       case rel =>
        rcases HM8.out with ⟨h5, hm⟩ | ⟨h5, g, hg, hm⟩
        ·have h9 := HE8.out
         rw [if_neg (show ¬ 50 ≤ bb.2 by omega)] at h9
         exact ⟨j + 1, s, kp, kl8, F8, hlt, by go_num, Lib.hid h9, Lib.hid (by have := Hkp.out; omega), Hkl8, Hsub, Hsl, Lib.hid hm, HF8⟩
        ·have h9 := HE8.out
         rw [if_pos (show 50 ≤ bb.2 by omega)] at h9
         have hm2 := ren_take (sc := bb.2) Hi.out hg (by rw [eraseIdx_map9]; exact hm)
         exact ⟨j + 1, take9 s i bb.1 bb.2, kp + 1, kl8, F8, hlt, by go_num, Lib.hid h9, Lib.hid (by have := Hkp.out; omega), Hkl8, Lib.hid (fun x hx => Hsub.out x (List.mem_of_mem_eraseIdx hx)), Lib.hid (by
          show (s.1.eraseIdx bb.1).length ≤ 100
          have := Hsl.out
          rw [List.length_eraseIdx]
          split <;> omega), Lib.hid hm2, HF8⟩
       case measure => simp [intOf]; omega
     ·have EF : Hid (fOf l s.2 (j : Int) = some (renOf l i p)) := Lib.hid (by rw [hF, hp]; rfl)
      obtain ⟨⟨r0, r1, r2⟩, hrr⟩ : ∃ rr, renOf l i p = rr := ⟨_, rfl⟩
      rw [hrr] at EF
      have HE8 : Hid (likes l (rdOf R) ((F0 l).drop (j + 1)) s = likes l (rdOf R) (F0 l) (sE l)) := Lib.hid (by
       rw [← HE.out, likes_cons Hi.out]
       unfold like1
       rw [hp]
       rfl)
      have b9 := balloc (balloc (Below.refl _ wr) (.cells #[S x.1, S x.2.1, S x.2.2] 124)) (.cells #[S r0, S r1, I r2] 71)
      have HM9 := Lib.hid (HM.out.step b9)
      have HF9 := Lib.hid (HF.out.step b9)
      clear hp hF b9
      go_wp2_with (at_lookup; refine wpList_look_ok _ rfl _ _ 132 rfl pairC Tryz.underlying132 ([], [], 0) (Tryz.zeroRen _) (z + 1) kp _ rfl m6 (j : Int) rfl hgk ?_; rw [EF.out]; simp only [Option.getD_some, Option.isSome_some]; rw [show pairC.vv (r0, r1, r2) = .agg #[S r0, S r1, I r2] from rfl])
      go_roundw
      case rel => exact ⟨j + 1, s, kp, kl, F, hlt, by go_num, HE8, Lib.hid (by have := Hkp.out; omega), Lib.hid (by have := Hkl.out; omega), Hsub, Hsl, HM9, HF9⟩
      case measure => simp [intOf]; omega
    ·obtain rfl : j = (F0 l).length := by omega
     have hren : renM l (rdOf R) = .ok (pairsOf l s.2 (F0 l)) := by
      have h := HE.out
      rw [List.drop_length, likes] at h
      unfold renM
      rw [← h]
     have Hren := Lib.hid hren
     have HMb := HM
     have HFb := HF
     clear hren HE HM HF Hsub Hsl Hkl
     go_wp2
     go_loopw [18, 77] (fun s18 s77 wr2 => ∃ (j n9 c9 : Nat) (A9 : Option Addr), j ≤ (F0 l).length ∧ s77 = .int .i64 j ∧ s18 = .slice A9 n9 c9 ∧ Hid (n9 ≤ j) ∧ Hid (Ow wr wr2 71 3 A9 n9 c9 (rns (pairsOf l s.2 ((F0 l).take j))))) (fun _ s77 _ => (F0 l).length - (intOf s77).toNat)
     case atStart => exact ⟨0, 0, 0, none, Nat.zero_le _, rfl, rfl, Lib.hid (Nat.le_refl _), Lib.hid (Ow.nil_ (Below.refl _ _))⟩
     case round =>
      obtain ⟨j, n9, c9, A9, hj, rfl, rfl, Hn9, HO⟩ := hrel
      by_cases hlt : j < (F0 l).length
      ·obtain ⟨i, hi⟩ : ∃ i, (F0 l)[j]? = some i := ⟨_, List.getElem?_eq_getElem hlt⟩
       have m6 := HMb.out.pairs.step HO.out.2
       have r6 := (HMb.out.blk.step HO.out.2).cell
       have hgk := small_good j (by omega)
       have hF := RenLaw.fOf_at (s2 := s.2) hi
       have HT := RenLaw.pairs_take (f := s.2) hi
       rcases hp : s.2 i with _ | p
       ·have EF : Hid (fOf l s.2 (j : Int) = none) := Lib.hid (by rw [hF, hp]; rfl)
        have h6 := HO.out.alloc (.cells #[S [], S [], I 0] 71)
        have e6 : pairsOf l s.2 ((F0 l).take j) = pairsOf l s.2 ((F0 l).take (j + 1)) := by
         rw [HT, hp]
         simp only [Option.map_none, Option.toList_none, List.append_nil]
        rw [e6] at h6
        have HO6 := Lib.hid h6
        clear hp hF HT hi h6 e6
        go_wp2_with (at_lookup; refine wpList_look_ok _ rfl _ _ 132 rfl pairC Tryz.underlying132 ([], [], 0) (Tryz.zeroRen _) (z + 1) kp _ rfl m6 (j : Int) rfl hgk ?_; rw [EF.out]; simp only [Option.getD_none, Option.isSome_none]; rw [show pairC.vv ([], [], 0) = .agg #[S [], S [], I 0] from rfl])
        go_roundw
        case rel => exact ⟨j + 1, n9, c9, A9, hlt, by go_num, rfl, Lib.hid (by have := Hn9.out; omega), HO6⟩
        case measure => simp [intOf]; omega
       ·have EF : Hid (fOf l s.2 (j : Int) = some (renOf l i p)) := Lib.hid (by rw [hF, hp]; rfl)
        obtain ⟨rr, hrr⟩ : ∃ rr, renOf l i p = rr := ⟨_, rfl⟩
        rw [hrr] at EF
        have HT2 : Hid (pairsOf l s.2 ((F0 l).take (j + 1)) = pairsOf l s.2 ((F0 l).take j) ++ [rr]) := Lib.hid (by
         rw [HT, hp, ← hrr]
         rfl)
        have hn9 := Hn9.out
        have q1 := Lib.hid (show n9 + 1 ≤ maxLen by simp only [maxLen]; omega)
        have q2 := Lib.hid (show (n9 + 1) * 40 ≤ 140737488355328 by omega)
        have HO6 := Lib.hid ((HO.out.alloc (.cells #[S rr.1, S rr.2.1, I rr.2.2] 71)).alloc (.cells #[S rr.1, S rr.2.1, I rr.2.2] 71))
        have HS6 := Lib.hid (sl_rn (wr.alloc (.cells #[S rr.1, S rr.2.1, I rr.2.2] 71)) 71 rr)
        simp only [World.size_alloc] at HS6
        have r7 := (Blk.new wr 71 #[S rr.1, S rr.2.1, I rr.2.2]).cell
        clear hp hF HT hi hrr
        go_wp2_with (first
         | (at_lookup; refine wpList_look_ok _ rfl _ _ 132 rfl pairC Tryz.underlying132 ([], [], 0) (Tryz.zeroRen _) (z + 1) kp _ rfl m6 (j : Int) rfl hgk ?_; rw [EF.out]; simp only [Option.getD_some, Option.isSome_some]; rw [show pairC.vv rr = .agg #[S rr.1, S rr.2.1, I rr.2.2] from rfl])
         | (at_builtin; refine wpList_append_sl _ rfl (.tmp 90) (.tmp 92) _ rfl _ 71 i0 _ 3 40 Tryz.underlying56 hi0 hz0 hz1 hz2 rfl (by decide) A9 n9 c9 _ rfl HO6.out _ 1 1 (rns [rr]) rfl HS6.out (one_rns _) q1.out q2.out ?_; intro A5 c5 w5 hO5 hg5 hat5; have HO5 := Lib.hid hO5; clear hO5 hg5 hat5))
        go_roundw
        case rel => exact ⟨j + 1, n9 + 1, c5, A5, hlt, by go_num, rfl, Lib.hid (by omega), Lib.hid (by
         have h9 := HO5.out
         rw [HT2.out, rns_append]
         exact h9)⟩
        case measure => simp [intOf]; omega
      ·obtain rfl : j = (F0 l).length := by omega
       have h9 := HO.out
       rw [List.take_length] at h9
       have H9 := Lib.hid h9
       have HBe : Hid (Below w.heap.size w wr) := Lib.hid (bstep (HBw.out.trans (HFb.out.below HBw.out.size (fun q hq => by
        rcases hq with h | h | h | h
        ·have := HMb.out.above.1; omega
        ·have := HMb.out.above.2.1; omega
        ·have := HMb.out.above.2.2; omega
        ·exact (HMb.out.lts q (.inr (.inr (.inr h)))).1))) HO.out.2)
       clear h9 HO
       go_wp2
       go_ret2
       refine ⟨?_, HBe.out⟩
       rw [Hren.out]
       have hl9 := rns_count H9.out.sl
       refine ⟨A9, c9, by rw [hl9]; rfl, ?_⟩
       rw [hl9]
       exact H9.out.sl
end Go.Proofs.YtphnfcgdpdimbaaGreatDoor
namespace Go.Proofs.YtphnfcgdpdimbaaGreatDoor
open Go.RowKit
open RenLaw (renM)
theorem TwoS.stP {w : World} {q p pk m n q2 r u z : Nat} {cap : Int} {R : List (List UInt8)} (h : TwoS w q p pk m n q2 r cap R u z) (hB : Blobs R) : StP w q p pk m n cap R := by
 obtain ⟨L, h1, h2, _⟩ := h.dp
 exact ⟨h.sp, ⟨L, h1, h2⟩, hB⟩
theorem renM_len {l : List Chg3} {rd : RenLaw.Rd} {rs : List Ren} (h : renM l rd = .ok rs) : rs.length ≤ l.length := by
 unfold renM at h
 split at h
 ·cases h
 ·cases h
  unfold RenLaw.pairsOf
  refine Nat.le_trans (List.length_filterMap_le _ _) ?_
  have h1 := List.length_filter_le (fun k => frsB (RenLaw.at9 l k)) (List.range l.length)
  rw [List.length_range] at h1
  exact h1
end Go.Proofs.YtphnfcgdpdimbaaGreatDoor

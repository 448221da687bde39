/-
  Texts merged: RpLoose, RpSave1, RpSave2, RpStore1, RpStore2, RpStore3, RpStore4, RpStore5, RpStore6. What each law says and asks stands at its head.
-/
import Derived.Test.YtphnfcgdpdimbaaGreatDoorRRpHex
import Derived.Test.YtphnfcgdpdimbaaGreatDoorRKitRq
import Derived.Test.YtphnfcgdpdimbaaGreatDoorRKitRp
import Derived.Test.YtphnfcgdpdimbaaGreatDoorRKitDd
import Derived.Test.YtphnfcgdpdimbaaGreatDoorRKitSt
import Derived.Test.YtphnfcgdpdimbaaGreatDoorRKitH
import Derived.Test.YtphnfcgdpdimbaaGreatDoorRKitI
namespace Go.Proofs.YtphnfcgdpdimbaaGreatDoor
open Go.RowKit
def RDecOk (raw : List UInt8) : Prop := ∀ (V : World) (A : Option Addr) (n c : Nat), Sl V 1 A n (u8s raw) → n ≤ c → Calls Tryz.prog 202 #[.slice A n c] V fun e w' => (∃ (k : Int) (dA : Option Addr) (dn dc : Nat) (eA : Option Addr) (en ec : Nat), e = .returned (.tuple #[.agg (objV k dA dn dc eA en ec), I 0])) ∧ Below V.heap.size V w'
theorem rdecOk_blob {data : List UInt8} (h : data.length ≤ 1048576) : RDecOk (1 :: data) := fun V A n c hA hc => (rdec_blob A n c data V hA hc h).mono (by
 rintro e w' ⟨⟨A', c', rfl, _, _⟩, hb⟩
 exact ⟨⟨1, A', data.length, c', none, 0, 0, rfl⟩, hb⟩)
set_option maxRecDepth 100000 in
set_option maxHeartbeats 1000000 in
theorem rlname_any (id : List UInt8) (w : World) (h : id.length ≤ 1000000) :
  Calls Tryz.prog 271 #[S id] w fun e w' => e = .returned (S (oname id)) ∧ Below w.heap.size w w' := by
 have C1 := Lib.hid (rhex_any id w h)
 have hl : (hexL id).length ≤ 2000000 := by rw [hexL_len]; omega
 have Hb := Lib.hid (ba_app [111, 47] (hexL id))
 obtain ⟨h9, hh⟩ : ∃ h9, h9 = hexL id := ⟨_, rfl⟩
 rw [← hh] at C1 hl Hb
 have Hh := Lib.hid (show oname id = [111, 47] ++ h9 by rw [hh]; rfl)
 clear hh
 go_enter Tryz.func271, Tryz.ntmps271
 go_wp2_with fail
 refine C1.out.mono ?_
 rintro e w1 ⟨rfl, b1⟩
 have B1 := Lib.hid b1
 clear b1 C1
 go_wp2
 go_ret
 exact ⟨by rw [Hh.out, Hb.out]; rfl, B1.out⟩
set_option maxRecDepth 100000 in
set_option maxHeartbeats 2000000 in
/-- an id that none may have -/
theorem rlget_bad (w : World) (r : Nat) (id : List UInt8) (_hl : id.length ≤ 9000000000000000000) (hid : id.length ≠ 32) :
  Calls Tryz.prog 268 #[.pointer (some ⟨r, 0, none⟩), S id] w (RetG w none 1) := by
 have hz : ((id.length : Int) != 32) = true := by rw [bne_iff_ne]; omega
 go_enter Tryz.func268, Tryz.ntmps268
 go_wp2
 go_ret2
 exact ⟨rfl, Below.refl _ _⟩
set_option maxRecDepth 100000 in
set_option maxHeartbeats 2000000 in
/-- none is there -/
theorem rlget_none (w : World) (r : Nat) (cap : Int) (l : List DF) (id : List UInt8) (h : RdAt w r cap l) (hl : l.length ≤ 999999) (hid : id.length = 32) (hg : rfHas l (oname id) = false) :
  Calls Tryz.prog 268 #[.pointer (some ⟨r, 0, none⟩), S id] w (RetG w none 6) := by
 have hz : ((id.length : Int) != 32) = false := by rw [hid]; rfl
 have C2 := Lib.hid (rlname_any id w (by omega))
 have C3 := Lib.hid (fun V (hV : Below w.heap.size w V) => rdread_no V r cap l (oname id) (h.step hV) hl (oname_ok hid) hg)
 clear h hg hid
 go_enter Tryz.func268, Tryz.ntmps268
 go_wp2_with fail
 refine C2.out.mono ?_
 rintro e w2 ⟨rfl, b2⟩
 have B2 := Lib.hid b2
 clear b2 C2
 go_wp2_with fail
 refine (C3.out w2 B2.out).mono ?_
 rintro e w3 ⟨rfl, hx⟩
 have B3 : Hid (Below w.heap.size w w3) := Lib.hid (by
  obtain ⟨m, rfl⟩ := hx
  exact bstep B2.out (below_drewN (Below.refl _ _) m))
 clear hx C3
 go_wp2
 go_ret2
 exact ⟨rfl, B3.out⟩
set_option maxRecDepth 100000 in
set_option maxHeartbeats 8000000 in
/-- it is there -/
theorem rlget_some (w : World) (r : Nat) (cap : Int) (l : List DF) (raw : List UInt8) (h : RdAt w r cap l) (hl : l.length ≤ 999999) (hg : rfHas l (oname (sumL raw)) = true) (hP : Pressed raw (oldR l (oname (sumL raw)))) (hx : (oldR l (oname (sumL raw))).length ≤ 100000000) (hr : raw.length ≤ 1100000) (hD : RDecOk raw) :
  Calls Tryz.prog 268 #[.pointer (some ⟨r, 0, none⟩), S (sumL raw)] w (RetG w (some raw) 0) := by
 obtain ⟨id, hid⟩ : ∃ id, id = sumL raw := ⟨_, rfl⟩
 have hl32 : id.length = 32 := by rw [hid]; exact sumL_len raw
 rw [← hid] at hg hP hx ⊢
 have Hid9 := Lib.hid hid
 have hz : ((id.length : Int) != 32) = false := by rw [hl32]; rfl
 have C2 := Lib.hid (rlname_any id w (by omega))
 have C3 := Lib.hid (fun V (hV : Below w.heap.size w V) => rdread_yes V r cap l (oname id) (h.step hV) hl (oname_ok hl32) hg hx)
 have HP := Lib.hid hP
 have HX := Lib.hid hx
 have hq : (id == id) = true := beq_self_eq_true id
 have HD := Lib.hid hD
 clear h hg hl32 hid hP hx hD
 go_enter Tryz.func268, Tryz.ntmps268
 go_wp2_with fail
 refine C2.out.mono ?_
 rintro e w2 ⟨rfl, b2⟩
 have B2 := Lib.hid b2
 clear b2 C2
 go_wp2_with fail
 refine (C3.out w2 B2.out).mono ?_
 rintro e w3 ⟨A3, k3, c3, rfl, hO3⟩
 have B3 := Lib.hid (bstep B2.out hO3.2)
 have hk3 : (oldR l (oname id)).length = k3 := u8s_len hO3.sl
 have C4 := Lib.hid (rpopen_any A3 k3 c3 2097152 (oldR l (oname id)) raw w3 (hO3.slT.weak (fun _ _ _ => trivial)) hO3.cap.1 (by have := HX.out; omega) HP.out (by omega) (by omega))
 clear hO3 C3 hk3
 go_wp2_with fail
 refine C4.out.mono ?_
 rintro e w4 ⟨⟨A4, k4, c4, rfl, hO4⟩, _⟩
 have HO4 := Lib.hid hO4
 have B4 := Lib.hid (bstep B3.out hO4.2)
 have hk4 : raw.length = k4 := u8s_len hO4.sl
 have C5 := Lib.hid (rsum_exact A4 k4 c4 raw w4 hO4.sl (by omega))
 rw [← Hid9.out] at C5
 clear hO4 C4 hk4
 go_wp2_with fail
 refine C5.out.mono ?_
 rintro e w5 ⟨rfl, b5⟩
 have HO5 := Lib.hid (HO4.out.keep b5)
 have B5 := Lib.hid (bstep B4.out b5)
 have C6 := Lib.hid (HD.out w5 A4 k4 c4 HO5.out.sl HO5.out.cap.1)
 clear b5 C5
 go_wp2_with fail
 refine C6.out.mono ?_
 rintro e w6 ⟨⟨ok, dA, dn, dc, eA, en, ec, rfl⟩, b6⟩
 have HO6 := Lib.hid (HO5.out.keep b6)
 have B6 := Lib.hid (bstep B5.out b6)
 clear b6 C6
 go_wp2
 go_ret2
 exact ⟨⟨A4, k4, c4, rfl, HO6.out.sl, HO6.out.cap.1, HO6.out.slT.weak (fun _ _ _ => trivial)⟩, B6.out⟩
set_option maxRecDepth 100000 in
set_option maxHeartbeats 8000000 in
theorem rpappend_ok (w : World) (r : Nat) (cap : Int) (l : List DF) (s : List UInt8) (A : Option Addr) (k cb : Nat) (b : List UInt8) (h : RdAt w r cap l) (hc : (costs l : Int) ≤ cap) (hcap : cap ≤ 1099511627776) (hcost : costs l ≤ 15000000) (hs : okName s = true) (hA : SlT (fun _ => True) 5 w 1 A k (u8s b)) (hk : k ≤ 64)
  (hf : ((k + (if rfHas l s then 0 else 16 + s.length) : Nat) : Int) ≤ cap - costs l) :
  Calls Tryz.prog 157 #[.pointer (some ⟨r, 0, none⟩), S s, .slice A k cb] w fun e w' => e = .returned (I 0) ∧ (∃ hd : Hd, RdAt w' r cap (rdPut l s hd (oldR l s ++ b))) ∧ Fr (fun k => k = r) w w' := by
 have hsl := (okName_len hs).2
 have hlen := len_costs l
 have hl : l.length ≤ 999998 := by omega
 have hl9 : l.length ≤ 999999 := by omega
 have hk9 : k ≤ 100000000 := by omega
 have hold := oldR_le l s
 have C1 := Lib.hid (rdnamed_any w s (by omega))
 rw [hs] at C1
 obtain ⟨A0, n0, c0, done, hB, _⟩ := id h
 have rc := hB.cell 4
 have HB := Lib.hid hB
 have HR := Lib.hid h
 have HA := Lib.hid hA
 have CF := Lib.hid (fun V hV => rdfree_any V r cap l hV (by omega) (by omega) (by omega))
 obtain ⟨fr, hfr⟩ : ∃ fr : Int, fr = cap - costs l := ⟨_, rfl⟩
 rw [← hfr] at CF hf
 have Hfr := Lib.hid hfr
 obtain ⟨j0, hj0, hy0, hy1, hy2⟩ := info_parts Tryz.infoU8
 have d64 : decide ((64 : Int) < (k : Int)) = false := decide_eq_false (by omega)
 clear hB hA hfr
 rcases hh : rfHas l s with _ | _
 ·have C2 := Lib.hid (rdread_no w r cap l s h (by omega) hs hh)
  have ho : oldR l s = [] := by unfold oldR; rw [hh]; rfl
  rw [hh] at hf
  rw [ho]
  have q1 : 0 + k ≤ maxLen := by simp only [maxLen]; omega
  have q2 : (0 + k) * 1 ≤ 140737488355328 := by omega
  have k1 : IntKind.i64.wrap ((k : Int) + 16) = (k : Int) + 16 := IntWalk.i64_in _ (by omega)
  have k2 : IntKind.i64.wrap ((k : Int) + 16 + (s.length : Int)) = (k : Int) + 16 + (s.length : Int) := IntWalk.i64_in _ (by omega)
  have d1 : decide (fr < (k : Int) + 16 + (s.length : Int)) = false := decide_eq_false (by simp at hf; omega)
  clear h hs hh hf hc ho hold hlen
  go_enter Tryz.func157, Tryz.ntmps157
  go_wp2_with (first
   | (go_at_call 82; refine C1.out.mono ?_; rintro e w1 ⟨rfl, h1⟩; obtain rfl := h1.symm; clear h1)
   | (go_at_call 230; refine C2.out.mono ?_; rintro e w2 ⟨rfl, m2, hw2⟩; have b2 : Below w.heap.size w w2 := (by rw [hw2]; exact below_drewN (Below.refl _ w) m2); have B2 := Lib.hid b2; have CF2 := Lib.hid (CF.out _ (HR.out.step b2)); have rc2 := (HB.out.step b2).cell 4; clear hw2 b2)
   | (go_at_call 85; refine CF2.out.mono ?_; rintro e w3 ⟨rfl, m3, hw3⟩; have b3 : Below w.heap.size w w3 := (by rw [hw3]; exact bstep B2.out (below_drewN (Below.refl _ w2) m3)); have B3 := Lib.hid b3; have C4 := Lib.hid (rdspend_any _ r cap l (HR.out.step b3)); clear hw3 b3)
   | (go_at_call 228; refine C4.out.mono ?_; rintro e w4 ⟨rfl, x4, hw4⟩; have F4 : Hid (Fr (fun k => k = r) w w4) := Lib.hid (by rw [hw4]; exact (Fr.of_below B3.out).trans (fr_tick _ _ _)); have H4 : Hid (RdAt w4 r cap l) := Lib.hid (by rw [hw4]; exact (HR.out.step B3.out).tick x4); have HA4 := Lib.hid (HA.out.keep (HR.out.kept F4.out)); clear hw4)
   | (at_builtin; refine wpList_append_sl _ rfl (.tmp 50) (.tmp 51) _ rfl w4 5 j0 _ 1 1 Tryz.underlying27 hj0 hy0 hy1 hy2 rfl Nat.one_pos none 0 0 [] rfl (Ow.nil_ (Below.refl _ w4)) A k _ (u8s b) rfl HA4.out.sl (one_u8s _) q1 q2 ?_; intro A7 c7 w7 hO7 hg7 hat7; have C5 := Lib.hid (rdput_any w7 r cap l s (H4.out.step hO7.2) hl9 A7 k c7 b (by have h := hO7.sl; rwa [Nat.zero_add, List.nil_append] at h) hk9); have B7 := Lib.hid hO7.2; clear hO7 hg7 hat7)
   | (go_at_call 84; refine C5.out.mono ?_; rintro e w8 ⟨rfl, ⟨hd, hdn, h8⟩, f8⟩; have H8 := Lib.hid h8; have F8 := Lib.hid f8; clear h8 f8))
  go_ret
  exact ⟨rfl, ⟨hd, H8.out⟩, F4.out.trans ((Fr.of_below B7.out).trans F8.out)⟩
 ·have C2 := Lib.hid (rdread_yes w r cap l s h (by omega) hs hh (by omega))
  rw [hh] at hf
  have d1 : decide (fr < (k : Int)) = false := decide_eq_false (by simp at hf; omega)
  obtain ⟨o, ho⟩ : ∃ o, o = oldR l s := ⟨_, rfl⟩
  rw [← ho] at C2 hold
  have Ho := Lib.hid ho
  have hol : o.length ≤ 15000000 := by omega
  have hq : ∀ m2 : Nat, m2 ≤ 15000000 → m2 + k ≤ maxLen ∧ (m2 + k) * 1 ≤ 140737488355328 ∧ m2 + k ≤ 100000000 := fun m2 h2 => ⟨by simp only [maxLen]; omega, by omega, by omega⟩
  clear h hs hh hf hc ho hold hlen
  go_enter Tryz.func157, Tryz.ntmps157
  go_wp2_with (first
   | (go_at_call 82; refine C1.out.mono ?_; rintro e w1 ⟨rfl, h1⟩; obtain rfl := h1.symm; clear h1)
   | (go_at_call 230; refine C2.out.mono ?_; rintro e w2 ⟨A2, m2, c2, rfl, hO2⟩; obtain ⟨q1, q2, q3⟩ := hq m2 (ow_small hO2 hol); have HO2 := Lib.hid hO2; have B2 := Lib.hid hO2.2; have CF2 := Lib.hid (CF.out _ (HR.out.step hO2.2)); clear hO2)
   | (go_at_call 85; refine CF2.out.mono ?_; rintro e w3 ⟨rfl, m3, hw3⟩; have b3 : Below w.heap.size w w3 := (by rw [hw3]; exact bstep B2.out (below_drewN (Below.refl _ w2) m3)); have B3 := Lib.hid b3; have HO3 := Lib.hid (show Ow w w3 5 1 A2 m2 c2 (u8s o) by rw [hw3]; exact HO2.out.drewN m3); have C4 := Lib.hid (rdspend_any _ r cap l (HR.out.step b3)); clear hw3 b3)
   | (go_at_call 228; refine C4.out.mono ?_; rintro e w4 ⟨rfl, x4, hw4⟩; have F4 : Hid (Fr (fun k => k = r) w w4) := Lib.hid (by rw [hw4]; exact (Fr.of_below B3.out).trans (fr_tick _ _ _)); have HT4 : Hid (∀ A n c d, Blk w r 173 (rdC5 cap A n c d) → ∃ d', Blk w4 r 173 (rdC5 cap A n c d')) := Lib.hid (fun A n c d hb => ⟨x4, by rw [hw4]; exact blk_tick (hb.step B3.out) x4⟩); have HA4 := Lib.hid (HA.out.keep (HR.out.kept F4.out)); have ho4 : w4.ownsRow w.heap.size 5 1 (.slice A2 m2 c2) m2 (u8s o) := (by rw [hw4]; exact own_fr HO3.out.1 (fr_tick _ _ _) (fun k e => by subst e; exact HR.out.lt)); obtain ⟨V, hV, hOV⟩ := ow_cut ho4 (Nat.le_trans B3.out.size (by rw [hw4]; simp)); have HOV := Lib.hid hOV; have HV := Lib.hid hV; clear hw4 ho4 hV hOV)
   | (at_builtin; refine wpList_append_sl _ rfl (.tmp 50) (.tmp 51) _ rfl V 5 j0 _ 1 1 Tryz.underlying27 hj0 hy0 hy1 hy2 rfl Nat.one_pos A2 m2 c2 _ rfl HOV.out A k _ (u8s b) rfl HA4.out.sl (one_u8s _) q1 q2 ?_; intro A7 c7 w7 hO7 hg7 hat7; have hgr : ∀ i, (Value.slice A2 m2 c2).ownBlock = some i → w.heap.size ≤ i := (fun i e => by have := (HOV.out.1.lt i e).1; rwa [HV.out] at this); have F7 : Hid (Fr (fun k => k = r) w w7) := Lib.hid (F4.out.grow hg7 (fun i e => .inl (hgr i e))); have H7 : Hid (RdAt w7 r cap l) := Lib.hid (HR.out.again F7.out (fun A n c d hb => by obtain ⟨d', hb'⟩ := HT4.out A n c d hb; exact ⟨d', hb'.grown hg7 (fun e => by have := hgr r e.symm; have := HR.out.lt; omega)⟩)); have C5 := Lib.hid (rdput_any w7 r cap l s H7.out hl9 A7 (m2 + k) c7 (o ++ b) (u8s_snoc9 hO7.sl) q3); clear hO7 hg7 hat7 hgr)
   | (go_at_call 84; refine C5.out.mono ?_; rintro e w8 ⟨rfl, ⟨hd, hdn, h8⟩, f8⟩; have H8 := Lib.hid h8; have F8 := Lib.hid f8; clear h8 f8))
  go_ret
  exact ⟨rfl, ⟨hd, by have := H8.out; rwa [Ho.out] at this⟩, F7.out.trans F8.out⟩
set_option maxRecDepth 100000 in
set_option maxHeartbeats 8000000 in
theorem rprename_ok (w : World) (r : Nat) (cap : Int) (l : List DF) (s t : List UInt8) (h : RdAt w r cap l) (hsr : Srt l) (hc : (costs l : Int) ≤ cap) (hcap : cap ≤ 1099511627776) (hcost : costs l ≤ 15000000) (hs : okName s = true) (ht : okName t = true) (hh : rfHas l s = true) (hle : t.length ≤ s.length) :
  Calls Tryz.prog 159 #[.pointer (some ⟨r, 0, none⟩), S s, S t] w fun e w' => e = .returned (I 0) ∧ (∃ hd : Hd, RdAt w' r cap (rdPut (dropF l s) t hd (oldR l s))) ∧ Fr (fun k => k = r) w w' := by
 have hsl := (okName_len hs).2
 have htl := (okName_len ht).2
 have hlen := len_costs l
 have hl : l.length ≤ 999998 := by omega
 have hold := oldR_le l s
 have hdl := drop_len l s
 have C1 := Lib.hid (rdnamed_any w s (by omega))
 have C2 := Lib.hid (rdnamed_any w t (by omega))
 rw [hs] at C1
 rw [ht] at C2
 have C3 := Lib.hid (rdtouch_ok w r cap l s h (by omega) hs hh)
 have CH := Lib.hid (fun V hV => rdhas_any V r cap l t hV (by omega))
 have CF := Lib.hid (fun V hV => rdfree_any V r cap l hV (by omega) (by omega) (by omega))
 obtain ⟨fr, hfr⟩ : ∃ fr : Int, fr = cap - costs l := ⟨_, rfl⟩
 rw [← hfr] at CF
 have CR := Lib.hid (fun V hV => rdread_yes V r cap l s hV (by omega) hs hh (by omega))
 have CD := Lib.hid (fun V hV => rddrop_any V r cap l s hV (by omega) hh)
 rw [rf_cut hsr hh] at CD
 obtain ⟨l2, hl2⟩ : ∃ l2, l2 = dropF l s := ⟨_, rfl⟩
 obtain ⟨o, ho⟩ : ∃ o, o = oldR l s := ⟨_, rfl⟩
 rw [← hl2] at CD hdl ⊢
 rw [← ho] at CR hold ⊢
 have HR := Lib.hid h
 have d2 : decide ((s.length : Int) < (t.length : Int)) = false := decide_eq_false (by omega)
 have k1 : IntKind.i64.wrap ((t.length : Int) - (s.length : Int)) = (t.length : Int) - (s.length : Int) := IntWalk.i64_in _ (by omega)
 have d1 : decide (fr < (t.length : Int) - (s.length : Int)) = false := decide_eq_false (by omega)
 have hl9 : l2.length ≤ 999999 := by omega
 have hk9 : costs l ≤ 100000000 := by omega
 clear h hsr hc hs ht hh hfr hl2 ho
 rcases hht : rfHas l t with _ | _
 all_goals
  rw [hht] at CH
  clear hht
  go_enter Tryz.func159, Tryz.ntmps159
  go_wp2_with (first
   | (go_at_call 82; first | ((with_reducible refine C1.out.mono ?_); rintro e w1 ⟨rfl, h1⟩; obtain rfl := h1.symm; clear h1) | ((with_reducible refine C2.out.mono ?_); rintro e w1 ⟨rfl, h1⟩; obtain rfl := h1.symm; clear h1))
   | (go_at_call 227; refine C3.out.mono ?_; rintro e w2 ⟨rfl, m2, hw2⟩; have b2 : Below w.heap.size w w2 := (by rw [hw2]; exact below_drewN (Below.refl _ w) m2); have B2 := Lib.hid b2; have CH2 := Lib.hid (CH.out _ (HR.out.step b2)); clear hw2 b2)
   | (go_at_call 83; refine CH2.out.mono ?_; rintro e w3 ⟨rfl, m3, hw3⟩; have b3 : Below w.heap.size w w3 := (by rw [hw3]; exact bstep B2.out (below_drewN (Below.refl _ w2) m3)); have B3 := Lib.hid b3; have CF3 := Lib.hid (CF.out _ (HR.out.step b3)); have C4 := Lib.hid (rdspend_any _ r cap l (HR.out.step b3)); clear hw3 b3)
   | (go_at_call 85; refine CF3.out.mono ?_; rintro e w4 ⟨rfl, m4, hw4⟩; have b4 : Below w.heap.size w w4 := (by rw [hw4]; exact bstep B3.out (below_drewN (Below.refl _ w3) m4)); have B3 := Lib.hid b4; have C4 := Lib.hid (rdspend_any _ r cap l (HR.out.step b4)); clear hw4 b4)
   | (go_at_call 228; refine C4.out.mono ?_; rintro e w5 ⟨rfl, x5, hw5⟩; have F5 : Hid (Fr (fun k => k = r) w w5) := Lib.hid (by rw [hw5]; exact (Fr.of_below B3.out).trans (fr_tick _ _ _)); have H5 : Hid (RdAt w5 r cap l) := Lib.hid (by rw [hw5]; exact (HR.out.step B3.out).tick x5); have C5 := Lib.hid (CR.out w5 H5.out); clear hw5)
   | (go_at_call 230; refine C5.out.mono ?_; rintro e w6 ⟨A6, k6, c6, rfl, hO6⟩; have HO6 := Lib.hid hO6; have hk6 := ow_small hO6 hold; have C6 := Lib.hid (CD.out w6 (H5.out.step hO6.2)); clear hO6)
   | (go_at_call 229; refine C6.out.mono ?_; rintro e w7 ⟨rfl, h7, f7⟩; have F7 := Lib.hid f7; have hs7 := Sl.of_own (own_fr HO6.out.1 f7 (fun k e => by subst e; exact H5.out.lt)); have C7 := Lib.hid (rdput_any w7 r cap l2 t h7 hl9 A6 k6 c6 o hs7 (Nat.le_trans hk6 hk9)); clear h7 f7 hs7)
   | (go_at_call 84; refine C7.out.mono ?_; rintro e w8 ⟨rfl, ⟨hd, hdn, h8⟩, f8⟩; have H8 := Lib.hid h8; have F8 := Lib.hid f8; clear h8 f8))
  go_ret
  exact ⟨rfl, ⟨hd, H8.out⟩, ((F5.out.step HO6.out.2).trans F7.out).trans F8.out⟩
set_option maxRecDepth 100000 in
set_option maxHeartbeats 16000000 in
theorem rpsave_any (w : World) (r : Nat) (cap : Int) (l : List DF) (s : List UInt8) (A : Option Addr) (k c : Nat) (bs : List UInt8) (h : RdAt w r cap l) (hsr : Srt l) (hc : (costs l : Int) ≤ cap) (hcap : cap ≤ 1099511627776) (hcost : costs l ≤ 10000000)
  (hA : SlT (fun _ => True) 5 w 1 A k (u8s bs)) (hk : 0 < k) (hk2 : k ≤ 2000000) (hkc : k ≤ c) (hs : okName (shName s) = true) (hs0 : s ≠ []) (hs1 : Lib.hasSuffix s [126] = false) :
  Calls Tryz.prog 87 #[.pointer (some ⟨r, 0, none⟩), S s, .slice A k c] w fun e w' => (e = .returned (I 4) ∧ cap - costs (dropF l (shName s)) < 16 + (s.length + 1) + k ∧ RdAt w' r cap (dropF l (shName s)) ∧ Fr (fun k => k = r) w w')
   ∨ (e = .returned (I 0) ∧ ((16 + (s.length + 1) + k : Nat) : Int) ≤ cap - costs (dropF l (shName s)) ∧ (∃ hd hd', RdAt w' r cap (saveR l s bs hd hd')) ∧ Fr (fun k => k = r) w w') := by
 obtain ⟨g, off, cs9, fr9, rfl, _, _⟩ := hA.2 (by omega)
 have hsh := (okName_len hs).2
 have hshl : (shName s).length = s.length + 1 := by unfold shName; simp
 have hos : okName s = true := by
  unfold okName at hs ⊢
  simp only [Bool.and_eq_true, decide_eq_true_eq] at hs ⊢
  obtain ⟨h1, h2, h3⟩ := hs
  exact ⟨List.length_pos_iff.2 hs0, by omega, no_zero s [126] h3⟩
 have hbl : bs.length = k := by have := hA.sl.1; simpa [u8s] using this
 have hcat : (⟨s.toArray⟩ : ByteArray) ++ ⟨#[126]⟩ = ⟨(shName s).toArray⟩ := ba_app s [126]
 have hq1 : s.isEmpty = false := by
  cases s with
  | nil => exact absurd rfl hs0
  | cons a r => rfl
 obtain ⟨sh, hshe⟩ : ∃ sh, sh = shName s := ⟨_, rfl⟩
 rw [← hshe] at hs hsh hshl hcat ⊢
 obtain ⟨l0, hl0⟩ : ∃ l0, l0 = dropF l sh := ⟨_, rfl⟩
 have hs0r : Srt l0 := by rw [hl0]; exact srt_drop hsr sh
 have hno : rfHas l0 sh = false := by rw [hl0]; exact has_drop hsr sh
 have hcl : costs l0 ≤ costs l := by rw [hl0]; exact costs_drop_le l sh (srt_keys hsr)
 have hlen := len_costs l
 have Hcl9 : Hid (costs l0 ≤ 10000000) := Lib.hid (by omega)
 have Hshl9 : Hid (sh.length ≤ 300) := Lib.hid (by omega)
 have hlen0 := len_costs l0
 have C1 := Lib.hid (rdnamed_any w sh (by omega))
 rw [hs] at C1
 have C2 := Lib.hid (rshadow_no s w hs0 hs1 (by omega))
 have C3 := Lib.hid (rdhas_any w r cap l sh h (by omega))
 have CM := Lib.hid (fun V hV hh => rdremove_ok V r cap l sh hV (by omega) hsr hs hh)
 rw [← hl0] at CM
 have CF := Lib.hid (fun V hV => rdfree_any V r cap l0 hV (by omega) (by omega) (by omega))
 obtain ⟨fr, hfr⟩ : ∃ fr : Int, fr = cap - costs l0 := ⟨_, rfl⟩
 rw [← hfr] at CF
 have CN := Lib.hid (fun V => rneed_any V s k (by omega) (by omega))
 obtain ⟨nd, hnd⟩ : ∃ nd : Int, nd = 16 + s.length + 1 + k := ⟨_, rfl⟩
 rw [← hnd] at CN
 have HA := Lib.hid hA
 have HR := Lib.hid h
 have rc := (show ∃ A0 n0 c0 done, Blk w r 173 (rdC5 cap A0 n0 c0 done) from by obtain ⟨A0, n0, c0, done, hB, _⟩ := h; exact ⟨A0, n0, c0, done, hB⟩)
 obtain ⟨A0, n0, c0, done, hB⟩ := rc
 have rc := hB.cell 4
 clear hB h hA
 have Hshe := Lib.hid hshe
 clear hshe
 have Hl0 := Lib.hid hl0
 have Hfr := Lib.hid hfr
 have Hnd := Lib.hid hnd
 clear hl0 hfr hnd
 have Hs0r := Lib.hid hs0r
 have Hno := Lib.hid hno
 have HShl := Lib.hid hshl
 have Hbl := Lib.hid hbl
 have Hsn := Lib.hid hs
 have Hon := Lib.hid hos
 have Hcl : Hid ((costs l0 : Int) ≤ cap) := Lib.hid (by omega)
 have Hkc := Lib.hid hkc
 have hsl9 : s.length ≤ 200 := by omega
 have hways : decide (fr < nd) = true ∨ decide (fr < nd) = false := by cases decide (fr < nd) <;> simp
 rcases hh : rfHas l sh with _ | _
 ·have e0 : l0 = l := by
   rw [Hl0.out]
   exact dropF_none (fun hm => by rw [(rf_iff hsr).2 hm] at hh; cases hh)
  rw [hh] at C3
  have HR0 : Hid (RdAt w r cap l0) := Lib.hid (by rw [e0]; exact HR.out)
  clear hh CM e0 hos hs0 hs1 hs hcl hlen hlen0 hc hsr hsh hshl hbl hs0r hno
  go_enter Tryz.func87, Tryz.ntmps87
  go_wp2_with (first
   | (go_at_call 82; (with_reducible refine C1.out.mono ?_); rintro e w1 ⟨rfl, h1⟩; obtain rfl := h1.symm; clear h1)
   | (go_at_call 154; (with_reducible refine C2.out.mono ?_); rintro e w1 ⟨rfl, h1⟩; obtain rfl := h1.symm; clear h1))
  refine C3.out.mono ?_
  rintro e w2 ⟨rfl, m2, hw2⟩
  have b2 : Below w.heap.size w w2 := by rw [hw2]; exact below_drewN (Below.refl _ w) m2
  have F2 : Hid (Fr (fun k => k = r) w w2) := Lib.hid (Fr.of_below b2)
  have HR2 := Lib.hid (HR0.out.step b2)
  have HA2 := Lib.hid (HA.out.step b2)
  clear hw2 b2 C1 C2 C3 rc
  go_wp2_with fail
  refine (CF.out w2 HR2.out).mono ?_
  rintro e w3 ⟨rfl, m3, hw3⟩
  have b3 : Below w2.heap.size w2 w3 := by rw [hw3]; exact below_drewN (Below.refl _ w2) m3
  have F3 : Hid (Fr (fun k => k = r) w w3) := Lib.hid (F2.out.trans (Fr.of_below b3))
  have HR3 := Lib.hid (HR2.out.step b3)
  have HA3 := Lib.hid (HA2.out.step b3)
  clear hw3 b3 CF
  go_wp2_with fail
  refine (CN.out w3).mono ?_
  rintro e w4 ⟨rfl, h4⟩
  obtain rfl := h4.symm
  clear h4 CN
  rcases hways with d1 | d1
  ·have HD := Lib.hid (of_decide_eq_true d1)
   go_wp2
   go_ret
   exact .inl ⟨rfl, by have h1 := HD.out; have h2 := Hfr.out; have h3 := Hnd.out; rw [← Hl0.out]; omega, by rw [← Hl0.out]; exact HR3.out, F3.out⟩
  ·have HD := Lib.hid (of_decide_eq_false d1)
   go_wp2
   go_loopw [9] (fun v wr => ∃ (j a : Nat) (hd : Hd), a = min (64 * j) k ∧ 64 * j < k + 64 ∧ v = .int .i64 a ∧ Hid (RdAt wr r cap (curR l0 sh bs j hd)) ∧ Hid (Fr (fun k => k = r) w wr)) (fun v _ => k - (intOf v).toNat)
   case atStart => exact ⟨0, 0, ⟨none, 0, 0⟩, by simp, by omega, rfl, Lib.hid HR3.out, Lib.hid F3.out⟩
   case round =>
    obtain ⟨j, a, hd, ha, hj, rfl, hRj, hFj⟩ := hrel
    have hcst : costs (curR l0 sh bs j hd) = costs l0 + (if j = 0 then 0 else 16 + sh.length + a) := by rw [curR_costs Hs0r.out Hno.out, Hbl.out, ← ha]
    have hfits : ((16 + sh.length + k : Nat) : Int) ≤ cap - costs l0 := by have h1 := HD.out; have h2 := Hfr.out; have h3 := Hnd.out; have h4 := HShl.out; omega
    have hcc : (costs (curR l0 sh bs j hd) : Int) ≤ cap := by rw [hcst]; split <;> omega
    have hcb : costs (curR l0 sh bs j hd) ≤ 15000000 := by rw [hcst]; have h9 := Hcl9.out; have h8 := Hshl9.out; split <;> omega
    have hHA := Lib.hid (HA.out.keep (HR.out.kept hFj.out))
    have Ha := Lib.hid ha
    by_cases hlt : a < k
    ·have ha2 : a = 64 * j := by omega
     obtain ⟨m, hm⟩ : ∃ m, m = min (k - a) 64 := ⟨_, rfl⟩
     have hmk : a + m ≤ k := by omega
     have hneed : ((m + (if rfHas (curR l0 sh bs j hd) sh then 0 else 16 + sh.length) : Nat) : Int) ≤ cap - costs (curR l0 sh bs j hd) := by
      rw [hcst, curR_has Hno.out]
      by_cases h0 : j = 0
      ·subst h0; simp; omega
      ·rw [if_neg h0, decide_eq_true (by omega), if_pos rfl]; omega
     have CAj := Lib.hid (rpappend_ok _ r cap (curR l0 sh bs j hd) sh (some ⟨g, off + a, none⟩) m (c - a) ((bs.drop a).take m) hRj.out hcc hcap hcb Hsn.out (hHA.out.mid hmk) (by omega) hneed)
     have HQ : Hid (∀ hd' : Hd, rdPut (curR l0 sh bs j hd) sh hd' (oldR (curR l0 sh bs j hd) sh ++ (bs.drop a).take m) = curR l0 sh bs (j + 1) hd') := Lib.hid (fun hd' => by
      rw [curR_put, curR_old Hno.out, ha2, hm, ha2, cur_step k Hbl.out]
      unfold curR
      rw [if_neg (by omega)])
     have kc := fun V : World => run_cut_lh (P := Tryz.prog) V Tryz.underlying27 Tryz.sizeU8 (some ⟨g, off, none⟩) k c .i64 .i64 a (a + m) (by omega) (by omega)
     rw [cutA_at _ _ _ _ (by omega)] at kc
     have d2 : decide ((a : Int) < (k : Int)) = true := decide_eq_true (by omega)
     have k1 : IntKind.i64.wrap ((k : Int) - (a : Int)) = ((k - a : Nat) : Int) := by rw [IntWalk.i64_in _ (by omega)]; omega
     have k2 : IntKind.i64.wrap ((a : Int) + (m : Int)) = ((a + m : Nat) : Int) := by rw [IntWalk.i64_in _ (by omega)]; omega
     have hmi : min (64 : Int) ((k - a : Nat) : Int) = (m : Int) := by omega
     have Hj1 : Hid (a + m = min (64 * (j + 1)) k ∧ 64 * (j + 1) < k + 64 ∧ 0 < m) := Lib.hid (by omega)
     clear hcst hfits hcc hcb ha hm hmk hneed ha2
     go_wp2_with fail
     refine CAj.out.mono ?_
     rintro e w5 ⟨rfl, ⟨hd', h5⟩, f5⟩
     have H5 : Hid (RdAt w5 r cap (curR l0 sh bs (j + 1) hd')) := Lib.hid (by rw [← HQ.out hd']; exact h5)
     have F5 := Lib.hid (hFj.out.trans f5)
     clear h5 f5 CAj HQ kc
     go_wp2
     go_roundw
     case rel => exact ⟨j + 1, a + m, hd', Hj1.out.1, Hj1.out.2.1, by go_num, H5, F5⟩
     case measure => have h9 := Hj1.out; simp [intOf]; omega
    ·have hj0 : 0 < j := by omega
     have hfull : curR l0 sh bs j hd = rdPut l0 sh hd bs := by
      unfold curR
      rw [if_neg (by omega), List.take_of_length_le (by have := Hbl.out; omega)]
     rw [hfull] at hcc hcb
     have HRj : Hid (RdAt wr r cap (rdPut l0 sh hd bs)) := Lib.hid (by have h9 := hRj.out; rwa [hfull] at h9)
     obtain ⟨hhas, hold⟩ := has_put l0 sh hd bs
     have hlen9 := len_costs (rdPut l0 sh hd bs)
     have hs9 := srt_put (s := sh) Hs0r.out hd bs
     have hle9 : s.length ≤ sh.length := by have := HShl.out; omega
     obtain ⟨l1, hl1⟩ : ∃ l1, l1 = rdPut l0 sh hd bs := ⟨_, rfl⟩
     rw [← hl1] at HRj hhas hold hlen9 hs9 hcc hcb
     have CHj := Lib.hid (rdhas_any wr r cap l1 sh HRj.out (by omega))
     rw [hhas] at CHj
     have CS := Lib.hid (fun V hV => rdsync_ok V r cap l1 sh hV (by omega) Hsn.out hhas)
     have CR := Lib.hid (fun V hV => rprename_ok V r cap l1 sh s hV hs9 hcc hcap hcb Hsn.out Hon.out hhas hle9)
     rw [hold] at CR
     have Hl1 := Lib.hid hl1
     have d2 : decide ((a : Int) < (k : Int)) = false := decide_eq_false (by omega)
     have HF : Hid (((16 + (s.length + 1) + k : Nat) : Int) ≤ cap - costs l0) := Lib.hid (by have h1 := HShl.out; omega)
     clear hj0 hfull hcc hcb hhas hold hlen9 hs9 hle9 hl1 hcst hfits ha
     go_wp2_with fail
     refine CHj.out.mono ?_
     rintro e w5 ⟨rfl, m5, hw5⟩
     have b5 : Below wr.heap.size wr w5 := by rw [hw5]; exact below_drewN (Below.refl _ wr) m5
     have F5 := Lib.hid (hFj.out.trans (Fr.of_below b5))
     have CS5 := Lib.hid (CS.out w5 (HRj.out.step b5))
     clear hw5 b5 CHj CS
     go_wp2_with fail
     refine CS5.out.mono ?_
     rintro e w6 ⟨rfl, h6, f6⟩
     have F6 := Lib.hid (F5.out.trans f6)
     have CR6 := Lib.hid (CR.out w6 h6)
     clear h6 f6 CS5 CR
     go_wp2_with fail
     refine CR6.out.mono ?_
     rintro e w7 ⟨rfl, ⟨hd', h7⟩, f7⟩
     have F7 := Lib.hid (F6.out.trans f7)
     have H7 := Lib.hid h7
     clear h7 f7 CR6
     go_wp2
     go_ret
     refine .inr ⟨rfl, by rw [← Hl0.out]; exact HF.out, ⟨hd, hd', ?_⟩, F7.out⟩
     unfold saveR
     rw [← Hshe.out, ← Hl0.out, ← Hl1.out]
     exact H7.out
 ·rw [hh] at C3
  have HH := Lib.hid hh
  clear hh hos hs0 hs1 hs hcl hlen hlen0 hc hsr hsh hshl hbl hs0r hno
  go_enter Tryz.func87, Tryz.ntmps87
  go_wp2_with (first
   | (go_at_call 82; (with_reducible refine C1.out.mono ?_); rintro e w1 ⟨rfl, h1⟩; obtain rfl := h1.symm; clear h1)
   | (go_at_call 154; (with_reducible refine C2.out.mono ?_); rintro e w1 ⟨rfl, h1⟩; obtain rfl := h1.symm; clear h1))
  refine C3.out.mono ?_
  rintro e w1 ⟨rfl, m1, hw1⟩
  have b1 : Below w.heap.size w w1 := by rw [hw1]; exact below_drewN (Below.refl _ w) m1
  have B1 := Lib.hid b1
  have CM1 := Lib.hid (CM.out w1 (HR.out.step b1) HH.out)
  clear hw1 b1 CM C1 C2 C3 rc
  go_wp2_with fail
  refine CM1.out.mono ?_
  rintro e w2 ⟨rfl, hR2, hF2⟩
  have F2 : Hid (Fr (fun k => k = r) w w2) := Lib.hid ((Fr.of_below B1.out).trans hF2)
  have HR2 := Lib.hid hR2
  have HA2 := Lib.hid (HA.out.keep (HR.out.kept F2.out))
  clear hR2 hF2 CM1
  go_wp2_with fail
  refine (CF.out w2 HR2.out).mono ?_
  rintro e w3 ⟨rfl, m3, hw3⟩
  have b3 : Below w2.heap.size w2 w3 := by rw [hw3]; exact below_drewN (Below.refl _ w2) m3
  have F3 : Hid (Fr (fun k => k = r) w w3) := Lib.hid (F2.out.trans (Fr.of_below b3))
  have HR3 := Lib.hid (HR2.out.step b3)
  have HA3 := Lib.hid (HA2.out.step b3)
  clear hw3 b3 CF
  go_wp2_with fail
  refine (CN.out w3).mono ?_
  rintro e w4 ⟨rfl, h4⟩
  obtain rfl := h4.symm
  clear h4 CN
  rcases hways with d1 | d1
  ·have HD := Lib.hid (of_decide_eq_true d1)
   go_wp2
   go_ret
   exact .inl ⟨rfl, by have h1 := HD.out; have h2 := Hfr.out; have h3 := Hnd.out; rw [← Hl0.out]; omega, by rw [← Hl0.out]; exact HR3.out, F3.out⟩
  ·have HD := Lib.hid (of_decide_eq_false d1)
   go_wp2
   go_loopw [9] (fun v wr => ∃ (j a : Nat) (hd : Hd), a = min (64 * j) k ∧ 64 * j < k + 64 ∧ v = .int .i64 a ∧ Hid (RdAt wr r cap (curR l0 sh bs j hd)) ∧ Hid (Fr (fun k => k = r) w wr)) (fun v _ => k - (intOf v).toNat)
   case atStart => exact ⟨0, 0, ⟨none, 0, 0⟩, by simp, by omega, rfl, Lib.hid HR3.out, Lib.hid F3.out⟩
   case round =>
    obtain ⟨j, a, hd, ha, hj, rfl, hRj, hFj⟩ := hrel
    have hcst : costs (curR l0 sh bs j hd) = costs l0 + (if j = 0 then 0 else 16 + sh.length + a) := by rw [curR_costs Hs0r.out Hno.out, Hbl.out, ← ha]
    have hfits : ((16 + sh.length + k : Nat) : Int) ≤ cap - costs l0 := by have h1 := HD.out; have h2 := Hfr.out; have h3 := Hnd.out; have h4 := HShl.out; omega
    have hcc : (costs (curR l0 sh bs j hd) : Int) ≤ cap := by rw [hcst]; split <;> omega
    have hcb : costs (curR l0 sh bs j hd) ≤ 15000000 := by rw [hcst]; have h9 := Hcl9.out; have h8 := Hshl9.out; split <;> omega
    have hHA := Lib.hid (HA.out.keep (HR.out.kept hFj.out))
    have Ha := Lib.hid ha
    by_cases hlt : a < k
    ·have ha2 : a = 64 * j := by omega
     obtain ⟨m, hm⟩ : ∃ m, m = min (k - a) 64 := ⟨_, rfl⟩
     have hmk : a + m ≤ k := by omega
     have hneed : ((m + (if rfHas (curR l0 sh bs j hd) sh then 0 else 16 + sh.length) : Nat) : Int) ≤ cap - costs (curR l0 sh bs j hd) := by
      rw [hcst, curR_has Hno.out]
      by_cases h0 : j = 0
      ·subst h0; simp; omega
      ·rw [if_neg h0, decide_eq_true (by omega), if_pos rfl]; omega
     have CAj := Lib.hid (rpappend_ok _ r cap (curR l0 sh bs j hd) sh (some ⟨g, off + a, none⟩) m (c - a) ((bs.drop a).take m) hRj.out hcc hcap hcb Hsn.out (hHA.out.mid hmk) (by omega) hneed)
     have HQ : Hid (∀ hd' : Hd, rdPut (curR l0 sh bs j hd) sh hd' (oldR (curR l0 sh bs j hd) sh ++ (bs.drop a).take m) = curR l0 sh bs (j + 1) hd') := Lib.hid (fun hd' => by
      rw [curR_put, curR_old Hno.out, ha2, hm, ha2, cur_step k Hbl.out]
      unfold curR
      rw [if_neg (by omega)])
     have kc := fun V : World => run_cut_lh (P := Tryz.prog) V Tryz.underlying27 Tryz.sizeU8 (some ⟨g, off, none⟩) k c .i64 .i64 a (a + m) (by omega) (by omega)
     rw [cutA_at _ _ _ _ (by omega)] at kc
     have d2 : decide ((a : Int) < (k : Int)) = true := decide_eq_true (by omega)
     have k1 : IntKind.i64.wrap ((k : Int) - (a : Int)) = ((k - a : Nat) : Int) := by rw [IntWalk.i64_in _ (by omega)]; omega
     have k2 : IntKind.i64.wrap ((a : Int) + (m : Int)) = ((a + m : Nat) : Int) := by rw [IntWalk.i64_in _ (by omega)]; omega
     have hmi : min (64 : Int) ((k - a : Nat) : Int) = (m : Int) := by omega
     have Hj1 : Hid (a + m = min (64 * (j + 1)) k ∧ 64 * (j + 1) < k + 64 ∧ 0 < m) := Lib.hid (by omega)
     clear hcst hfits hcc hcb ha hm hmk hneed ha2
     go_wp2_with fail
     refine CAj.out.mono ?_
     rintro e w5 ⟨rfl, ⟨hd', h5⟩, f5⟩
     have H5 : Hid (RdAt w5 r cap (curR l0 sh bs (j + 1) hd')) := Lib.hid (by rw [← HQ.out hd']; exact h5)
     have F5 := Lib.hid (hFj.out.trans f5)
     clear h5 f5 CAj HQ kc
     go_wp2
     go_roundw
     case rel => exact ⟨j + 1, a + m, hd', Hj1.out.1, Hj1.out.2.1, by go_num, H5, F5⟩
     case measure => have h9 := Hj1.out; simp [intOf]; omega
    ·have hj0 : 0 < j := by omega
     have hfull : curR l0 sh bs j hd = rdPut l0 sh hd bs := by
      unfold curR
      rw [if_neg (by omega), List.take_of_length_le (by have := Hbl.out; omega)]
     rw [hfull] at hcc hcb
     have HRj : Hid (RdAt wr r cap (rdPut l0 sh hd bs)) := Lib.hid (by have h9 := hRj.out; rwa [hfull] at h9)
     obtain ⟨hhas, hold⟩ := has_put l0 sh hd bs
     have hlen9 := len_costs (rdPut l0 sh hd bs)
     have hs9 := srt_put (s := sh) Hs0r.out hd bs
     have hle9 : s.length ≤ sh.length := by have := HShl.out; omega
     obtain ⟨l1, hl1⟩ : ∃ l1, l1 = rdPut l0 sh hd bs := ⟨_, rfl⟩
     rw [← hl1] at HRj hhas hold hlen9 hs9 hcc hcb
     have CHj := Lib.hid (rdhas_any wr r cap l1 sh HRj.out (by omega))
     rw [hhas] at CHj
     have CS := Lib.hid (fun V hV => rdsync_ok V r cap l1 sh hV (by omega) Hsn.out hhas)
     have CR := Lib.hid (fun V hV => rprename_ok V r cap l1 sh s hV hs9 hcc hcap hcb Hsn.out Hon.out hhas hle9)
     rw [hold] at CR
     have Hl1 := Lib.hid hl1
     have d2 : decide ((a : Int) < (k : Int)) = false := decide_eq_false (by omega)
     have HF : Hid (((16 + (s.length + 1) + k : Nat) : Int) ≤ cap - costs l0) := Lib.hid (by have h1 := HShl.out; omega)
     clear hj0 hfull hcc hcb hhas hold hlen9 hs9 hle9 hl1 hcst hfits ha
     go_wp2_with fail
     refine CHj.out.mono ?_
     rintro e w5 ⟨rfl, m5, hw5⟩
     have b5 : Below wr.heap.size wr w5 := by rw [hw5]; exact below_drewN (Below.refl _ wr) m5
     have F5 := Lib.hid (hFj.out.trans (Fr.of_below b5))
     have CS5 := Lib.hid (CS.out w5 (HRj.out.step b5))
     clear hw5 b5 CHj CS
     go_wp2_with fail
     refine CS5.out.mono ?_
     rintro e w6 ⟨rfl, h6, f6⟩
     have F6 := Lib.hid (F5.out.trans f6)
     have CR6 := Lib.hid (CR.out w6 h6)
     clear h6 f6 CS5 CR
     go_wp2_with fail
     refine CR6.out.mono ?_
     rintro e w7 ⟨rfl, ⟨hd', h7⟩, f7⟩
     have F7 := Lib.hid (F6.out.trans f7)
     have H7 := Lib.hid h7
     clear h7 f7 CR6
     go_wp2
     go_ret
     refine .inr ⟨rfl, by rw [← Hl0.out]; exact HF.out, ⟨hd, hd', ?_⟩, F7.out⟩
     unfold saveR
     rw [← Hshe.out, ← Hl0.out, ← Hl1.out]
     exact H7.out
structure RObj (l : List DF) (R : List (List UInt8)) : Prop where
 tied : ∃ L, Tied l L ∧ Objs L R
 fine : ∀ raw ∈ R, raw.length ≤ 1100000 ∧ RDecOk raw
section
variable {l : List DF} {R : List (List UInt8)}
theorem RObj.nil_ : RObj [] [] := ⟨⟨[], ⟨by simp [Srt], List.Perm.refl _⟩, Objs.nil_⟩, fun _ h => by cases h⟩
theorem RObj.srt (h : RObj l R) : Srt l := by
 obtain ⟨L, h1, _⟩ := h.tied
 exact h1.1
theorem RObj.none_ (h : RObj l R) {id : List UInt8} (hg : getObj R id = none) : rfHas l (oname id) = false := by
 obtain ⟨L, h1, h2⟩ := h.tied
 rw [h1.has, h2.none_ hg]
 rfl
theorem RObj.some_ (h : RObj l R) {raw : List UInt8} (hr : raw ∈ R) : rfHas l (oname (sumL raw)) = true ∧ Pressed raw (oldR l (oname (sumL raw))) ∧ 5 * (oldR l (oname (sumL raw))).length ≤ 6 * raw.length + 40 := by
 obtain ⟨L, h1, h2⟩ := h.tied
 have hh : rfHas l (oname (sumL raw)) = true := (rf_iff h1.1).2 (h1.keys.mem_iff.2 (h2.there raw hr))
 obtain ⟨y, hy, e1⟩ := rf_has hh
 have hold : oldR l (oname (sumL raw)) = y.2.2 := by
  unfold oldR
  rw [if_pos hh, hy]
  rfl
 have hm : nb y ∈ L.map nb := h1.2.mem_iff.1 (List.mem_map_of_mem (List.mem_of_getElem? hy))
 obtain ⟨x, hx, e2⟩ := List.mem_map.1 hm
 obtain ⟨e3, e4⟩ := Prod.mk.inj (show (x.1, x.2.2) = (y.1, y.2.2) from e2)
 obtain ⟨raw', hr', e5, h5, h6⟩ := h2.files x hx
 obtain rfl : raw' = raw := h2.apart raw' hr' raw hr (oname_inj (by rw [← e5, e3, e1]))
 rw [hold, ← e4]
 exact ⟨hh, h5, h6⟩
theorem RObj.put (h : RObj l R) {raw pr : List UInt8} (hd hd' : Hd) (hg : getObj R (sumL raw) = none) (hP : Pressed raw pr) (hl : 5 * pr.length ≤ 6 * raw.length + 40) (hf : 0 < raw.length ∧ raw.length ≤ 1100000 ∧ DecOk raw) (hD : RDecOk raw) :
  RObj (saveR l (oname (sumL raw)) pr hd hd') (raw :: R) := by
 obtain ⟨L, h1, h2⟩ := h.tied
 refine ⟨⟨_, saveR_tied h1 _ pr hd hd' ⟨none, 0, 0⟩, h2.put ⟨none, 0, 0⟩ hg hP hl ⟨hf.1, by omega, hf.2.2⟩⟩, fun r hr => ?_⟩
 rcases List.mem_cons.1 hr with rfl | hr
 ·exact ⟨hf.2.1, hD⟩
 ·exact h.fine r hr
theorem RObj.drop_ (h : RObj l R) {id : List UInt8} (hid : id.length = 32) : costs (dropF l (shName (oname id))) = costs l := by
 obtain ⟨L, h1, h2⟩ := h.tied
 rw [(h1.drop (shName (oname id))).costs, h2.dropSh hid, h1.costs]
end
set_option maxRecDepth 100000 in
set_option maxHeartbeats 8000000 in
theorem rlput_any (w : World) (r : Nat) (cap : Int) (l : List DF) (R : List (List UInt8)) (raw : List UInt8) (A : Option Addr) (k c : Nat) (hA : SlT (fun _ => True) 5 w 1 A k (u8s raw)) (hkc : k ≤ c) (h : RdAt w r cap l) (hO : RObj l R) (hg : getObj R (sumL raw) = none)
  (h0 : 0 < raw.length) (hr : raw.length ≤ 1100000) (hD : RDecOk raw) (hcap : cap ≤ 1099511627776) (hcost : costs l ≤ 10000000) (hroom : (costs l : Int) + 3000000 ≤ cap) :
  Calls Tryz.prog 213 #[.pointer (some ⟨r, 0, none⟩), .slice A k c] w fun e w' => e = .returned (.tuple #[S (sumL raw), I 0]) ∧ (∃ hd hd' pr, RdAt w' r cap (saveR l (oname (sumL raw)) pr hd hd') ∧ Pressed raw pr ∧ 5 * pr.length ≤ 6 * raw.length + 40) ∧ Fr (fun j => j = r) w w' := by
 have hk : raw.length = k := u8s_len hA.sl
 obtain ⟨id, hid⟩ : ∃ id, id = sumL raw := ⟨_, rfl⟩
 have hl : id.length = 32 := by rw [hid]; exact sumL_len raw
 have hlen := len_costs l
 have hno := hO.none_ hg
 have hdc := hO.drop_ (id := sumL raw) (sumL_len raw)
 have hsr := hO.srt
 rw [← hid] at hg hno hdc ⊢
 have Hid9 := Lib.hid hid
 have C0 := Lib.hid (fun V (hV : Below w.heap.size w V) => rsum_exact A k c raw V (hA.sl.below hV) (by omega))
 rw [← hid] at C0
 have CD := Lib.hid (hD w A k c hA.sl hkc)
 have C2 := Lib.hid (fun V (hV : Below w.heap.size w V) => rlget_none V r cap l id (h.step hV) (by omega) hl hno)
 have C3 := Lib.hid (fun V => rlname_any id V (by omega))
 have C4 := Lib.hid (fun V (hV : Below w.heap.size w V) => rpress_any A k c raw V (hA.sl.below hV) hkc (by omega) (by omega))
 have C5 : Hid (∀ V, Below w.heap.size w V → ∀ (B : Option Addr) (n' c' : Nat) (pr : List UInt8), SlT (fun _ => True) 5 V 1 B n' (u8s pr) → n' ≤ c' → 5 * pr.length ≤ 6 * raw.length + 40 → 0 < n' → Calls Tryz.prog 87 #[.pointer (some ⟨r, 0, none⟩), S (oname id), .slice B n' c'] V fun e w' => e = .returned (I 0) ∧ (∃ hd hd', RdAt w' r cap (saveR l (oname id) pr hd hd')) ∧ Fr (fun j => j = r) V w') := Lib.hid (fun V hV B n' c' pr h1 h2 h4 h5 => by
  have hl1 : pr.length = n' := u8s_len h1.sl
  have hol := oname_len id
  refine (rpsave_any V r cap l (oname id) B n' c' pr (h.step hV) hsr (by omega) hcap hcost h1 h5 (by omega) h2 (oname_sh hl) (by intro e; have := congrArg List.length e; rw [hol] at this; simp at this) (oname_suffix id)).mono ?_
  rintro e w' (⟨_, hlt, _⟩ | ⟨rfl, _, h6, h7⟩)
  ·omega
  ·exact ⟨rfl, h6, h7⟩)
 clear hA h hno hg hid hD hroom hl hO hsr hdc
 go_enter Tryz.func213, Tryz.ntmps213
 go_wp2_with fail
 refine CD.out.mono ?_
 rintro e w2 ⟨⟨ok, dA, dn, dc, eA, en, ec, rfl⟩, b2⟩
 obtain ⟨w3, hw3⟩ : ∃ w3, w3 = w2.alloc (.cells (objV ok dA dn dc eA en ec) 110) := ⟨_, rfl⟩
 have b3 : Below w2.heap.size w2 w3 := by rw [hw3]; exact balloc (Below.refl _ _) _
 have B3 := Lib.hid (bstep b2 b3)
 clear b2 b3 CD
 go_wp2_with fail
 rw [← hw3]
 clear hw3
 refine (C0.out w3 B3.out).mono ?_
 rintro e w5 ⟨rfl, b5⟩
 have B5 := Lib.hid (bstep B3.out b5)
 clear b5 C0
 go_wp2_with fail
 refine (C2.out w5 B5.out).mono ?_
 rintro e w6 ⟨rfl, b6⟩
 have B6 := Lib.hid (bstep B5.out b6)
 clear b6 C2
 go_wp2_with fail
 refine (C3.out w6).mono ?_
 rintro e w7 ⟨rfl, b7⟩
 have B7 := Lib.hid (bstep B6.out b7)
 clear b7 C3
 go_wp2_with fail
 refine (C4.out w7 B7.out).mono ?_
 rintro e w8 ⟨⟨A8, n8, c8, pr, rfl, hS8, h81, h82, hP8, hL8⟩, b8⟩
 have B8 := Lib.hid (bstep B7.out b8)
 have hn8 : pr.length = n8 := u8s_len hS8.sl
 have hpos : 0 < n8 := by
  obtain ⟨P, e, _⟩ := hP8
  have h9 := putNum_len_pos raw.length
  rw [← hn8, e, List.length_append]
  omega
 have C6 := Lib.hid (C5.out w8 B8.out A8 n8 c8 pr hS8 h81 hL8 hpos)
 have HPr : Hid (Pressed raw pr ∧ 5 * pr.length ≤ 6 * raw.length + 40) := Lib.hid ⟨hP8, hL8⟩
 clear hS8 h81 h82 hP8 hL8 b8 hn8 hpos C4 C5
 go_wp2_with fail
 refine C6.out.mono ?_
 rintro e w9 ⟨rfl, ⟨hd, hd', h91⟩, h92⟩
 have H9 := Lib.hid h91
 have F9 : Hid (Fr (fun j => j = r) w w9) := Lib.hid ((Fr.of_below B8.out).trans h92)
 clear h91 h92 C6
 go_wp2
 go_ret2
 exact ⟨rfl, ⟨hd, hd', pr, H9.out, HPr.out.1, HPr.out.2⟩, F9.out⟩
theorem extract_mk2 (s : List UInt8) (f k : Nat) : (⟨s.toArray⟩ : ByteArray).extract f k = ⟨((s.drop f).take (k - f)).toArray⟩ := by
 apply ByteArray.ext
 rw [ByteArray.data_extract]
 simp [List.extract]
set_option maxRecDepth 100000 in
set_option maxHeartbeats 1000000 in
theorem rpacked_no (t : List UInt8) (w : World) (ht : t.length ≤ 1000) :
  Calls Tryz.prog 126 #[S (111 :: 47 :: t)] w fun e w' => e = .returned (.bool false) ∧ w' = w := by
 have d1 : decide ((2 : Int) ≤ ((111 :: 47 :: t).length : Int)) = true := decide_eq_true (by simp only [List.length_cons]; omega)
 have hx : (((⟨(111 :: 47 :: t).toArray⟩ : ByteArray).extract 0 2).toList == [112, 47]) = false := by
  rw [extract_mk2]
  rw [ByteArray.toList_mk]
  rfl
 go_enter Tryz.func126, Tryz.ntmps126
 go_wp2
 go_ret
 exact ⟨rfl, rfl⟩
theorem sl_str1 (w : World) (s : List UInt8) : Sl (w.alloc (.cells #[S s] 9)) 1 (some ⟨w.heap.size, 0, none⟩) 1 (strs [s]) := sl_one w 9 (S s)
set_option maxRecDepth 100000 in
set_option maxHeartbeats 4000000 in
/-- the names of the document's disk -/
theorem rnames_any (w : World) (r : Nat) (cap : Int) (l : List DF) (h : RdAt w r cap l) (hl : l.length ≤ 999999) :
  Calls Tryz.prog 316 #[.pointer (some ⟨r, 0, none⟩)] w fun e w' => ∃ (A : Option Addr) (c : Nat), e = .returned (.slice A l.length c) ∧ Ow w w' 9 1 A l.length c (strs (l.map (·.1))) := by
 obtain ⟨i0, hi0, hz0, hz1, hz2⟩ := info_parts Tryz.infoStr
 obtain ⟨A, n, c, done, hB, hc, hS, _⟩ := h
 obtain rfl : l.length = n := rds_count hS.sl
 have HB := Lib.hid hB
 have HS := Lib.hid hS.sl
 clear hB hS hc
 go_enter Tryz.func316, Tryz.ntmps316
 go_wp2
 go_loopw [3, 4] (fun sv iv wr => ∃ (i co : Nat) (Ao : Option Addr), sv = .slice Ao i co ∧ iv = .int .i64 i ∧ i ≤ l.length ∧ Hid (Ow w wr 9 1 Ao i co (strs ((l.map (·.1)).take i)))) (fun _ iv _ => l.length - (intOf iv).toNat)
 case atStart => exact ⟨0, 0, none, rfl, rfl, Nat.zero_le _, Lib.hid (Ow.nil_ (Below.refl _ _))⟩
 case round =>
  obtain ⟨i, co, Ao, rfl, rfl, hi, hO⟩ := hrel
  have rB := (HB.out.step hO.out.2).cell
  by_cases hlt : i < l.length
  ·obtain ⟨b, off, x, rfl, hb, hx, hy, _⟩ := (HS.out.below hO.out.2).rd hlt
   have HO6 := Lib.hid (hO.out.alloc (.cells #[S x.1] 9))
   have q1 : i + 1 ≤ maxLen := by simp only [maxLen]; omega
   have q2 : (i + 1) * 16 ≤ 140737488355328 := by omega
   have HX : Hid (strs ((l.map (·.1)).take i) ++ strs [x.1] = strs ((l.map (·.1)).take (i + 1))) := Lib.hid (by
    rw [List.take_add_one, List.getElem?_map, hx]
    simp [strs])
   clear hx hb
   go_wp2_with (at_builtin; refine wpList_append_sl _ rfl (.tmp 14) (.tmp 23) _ rfl w 9 i0 _ 1 16 Tryz.underlying52 hi0 hz0 hz1 hz2 rfl Nat.one_pos _ _ _ _ rfl HO6.out _ 1 1 (strs [x.1]) rfl (sl_str1 wr x.1) (one_strs _) q1 q2 ?_; intro A4 c4 w4 hO4 hg4 hat4; have HO4 := Lib.hid hO4; clear hO4 hg4 hat4)
   go_roundw
   case rel => exact ⟨i + 1, c4, A4, rfl, by go_num, hlt, Lib.hid (by rw [← HX.out]; exact HO4.out)⟩
   case measure => simp [intOf]; omega
  ·obtain rfl : i = l.length := by omega
   go_wp2
   go_ret
   have h9 := hO.out
   rw [List.take_of_length_le (by simp)] at h9
   exact ⟨Ao, co, rfl, h9⟩
def RStAt (w : World) (q r : Nat) : Prop := Blk w q 216 #[.pointer (some ⟨r, 0, none⟩)]
set_option maxRecDepth 100000 in
set_option maxHeartbeats 4000000 in
/-- where only objects lie, there are no packs -/
theorem rpacks_none (w : World) (q r : Nat) (cap : Int) (l : List DF) (hQ : RStAt w q r) (h : RdAt w r cap l) (hl : l.length ≤ 999999) (hn : ∀ x ∈ l, ∃ t : List UInt8, x.1 = 111 :: 47 :: t ∧ t.length ≤ 1000) :
  Calls Tryz.prog 269 #[.pointer (some ⟨q, 0, none⟩)] w fun e w' => e = .returned (.slice none 0 0) ∧ Below w.heap.size w w' := by
 have rQ := hQ.cell
 have CN := Lib.hid (rnames_any w r cap l h hl)
 clear h hQ
 go_enter Tryz.func269, Tryz.ntmps269
 go_wp2_with fail
 refine CN.out.mono ?_
 rintro e w1 ⟨A, c, rfl, hO⟩
 have HO := Lib.hid hO
 clear hO CN rQ
 go_wp2
 go_loopw [3, 5] (fun sv iv wr => ∃ i : Nat, sv = .slice none 0 0 ∧ iv = .int .i64 i ∧ i ≤ l.length ∧ wr = w1) (fun _ iv _ => l.length - (intOf iv).toNat)
 case atStart => exact ⟨0, rfl, rfl, Nat.zero_le _, rfl⟩
 case round =>
  obtain ⟨i, rfl, rfl, hi, hwr⟩ := hrel
  subst hwr
  by_cases hlt : i < l.length
  ·obtain ⟨b, off, s, rfl, hs, hy⟩ := HO.out.sl.str hlt
   obtain ⟨x, hx⟩ : ∃ x, l[i]? = some x := ⟨l[i]'hlt, List.getElem?_eq_getElem _⟩
   rw [List.getElem?_map, hx] at hs
   obtain ⟨t, e1, e2⟩ := hn x (List.mem_of_getElem? hx)
   have e3 : s = 111 :: 47 :: t := by
    simp at hs
    rw [← hs, e1]
   have CK := Lib.hid (rpacked_no t wr e2)
   rw [← e3] at CK
   clear hs hx e1 e2 e3
   go_wp2_with fail
   refine CK.out.mono ?_
   rintro e w2 ⟨rfl, hw2⟩
   have hw3 := hw2.symm
   subst hw3
   clear CK
   go_wp2
   go_roundw
   case rel => exact ⟨i + 1, rfl, by go_num, hlt, trivial⟩
   case measure => simp [intOf]; omega
  ·obtain rfl : i = l.length := by omega
   go_wp2
   go_ret
   exact ⟨rfl, HO.out.2⟩
theorem RObj.names {l : List DF} {R : List (List UInt8)} (h : RObj l R) : ∀ x ∈ l, ∃ t : List UInt8, x.1 = 111 :: 47 :: t ∧ t.length ≤ 1000 := fun x hx => by
 obtain ⟨L, h1, h2⟩ := h.tied
 obtain ⟨y, hy, e⟩ := List.mem_map.1 (h1.keys.mem_iff.1 (List.mem_map_of_mem (f := (·.1)) hx))
 obtain ⟨raw, _, e2, _⟩ := h2.files y hy
 refine ⟨hexL (sumL raw), ?_, by rw [hexL_len, sumL_len]; decide⟩
 have e3 : y.1 = x.1 := e
 rw [← e3, e2]
 rfl
theorem RObj.put_costs {l : List DF} {R : List (List UInt8)} (h : RObj l R) (raw pr : List UInt8) (hd hd' : Hd) (hl : 5 * pr.length ≤ 6 * raw.length + 40) : costs (saveR l (oname (sumL raw)) pr hd hd') ≤ costs l + 2 * raw.length + 200 := by
 obtain ⟨L, h1, h2⟩ := h.tied
 rw [(saveR_tied h1 _ pr hd hd' ⟨none, 0, 0⟩).costs, h2.dropSh (sumL_len raw), h1.costs]
 unfold putF
 have hcd := costs_drop_le L (oname (sumL raw)) ((h1.keys.nodup_iff).1 (srt_keys h1.1))
 have hol := oname_len (sumL raw)
 have hsl := sumL_len raw
 show cost1 _ + costs _ ≤ _
 unfold cost1
 simp only
 omega
set_option maxRecDepth 100000 in
set_option maxHeartbeats 8000000 in
theorem rsget_any (w : World) (q r : Nat) (cap : Int) (l : List DF) (R : List (List UInt8)) (id : List UInt8) (hQ : RStAt w q r) (h : RdAt w r cap l) (hO : RObj l R) (hl : l.length ≤ 999999) (hil : id.length ≤ 9000000000000000000) :
  Calls Tryz.prog 212 #[.pointer (some ⟨q, 0, none⟩), S id] w (RetG w (getS R id) (getZ id)) := by
 have rQ := hQ.cell
 by_cases h32 : id.length = 32
 ·rcases hg : getObj R id with _ | raw
  ·have e1 : getS R id = none := by unfold getS; rw [if_pos h32, hg]
   have e2 : getZ id = 6 := by unfold getZ; rw [if_pos h32]
   rw [e1, e2]
   have C2 := Lib.hid (rlget_none w r cap l id h hl h32 (hO.none_ hg))
   have CP := Lib.hid (fun V (hV : Below w.heap.size w V) => rpacks_none V q r cap l (Blk.step hQ hV) (h.step hV) hl hO.names)
   clear h hO hg e1 e2 h32 hil hQ
   go_enter Tryz.func212, Tryz.ntmps212
   go_wp2_with fail
   refine C2.out.mono ?_
   rintro e w2 ⟨rfl, b2⟩
   have B2 := Lib.hid b2
   clear b2 C2 rQ
   go_wp2_with fail
   refine (CP.out w2 B2.out).mono ?_
   rintro e w3 ⟨rfl, b3⟩
   have B3 := Lib.hid (bstep B2.out b3)
   clear b3 CP
   go_wp2
   go_loopw [9] (fun iv wr => iv = .int .i64 0 ∧ wr = w3) (fun _ _ => 0)
   case atStart => exact ⟨rfl, rfl⟩
   case round =>
    obtain ⟨rfl, hwr⟩ := hrel
    subst hwr
    go_wp2
    go_ret2
    exact ⟨rfl, B3.out⟩
  ·have e1 : getS R id = some raw := by unfold getS; rw [if_pos h32, hg]
   obtain ⟨hm, hs⟩ := getObj_mem hg
   obtain ⟨p1, p2, p3⟩ := hO.some_ hm
   obtain ⟨f1, f2⟩ := hO.fine raw hm
   have C2 := Lib.hid (rlget_some w r cap l raw h hl p1 p2 (by omega) f1 f2)
   rw [hs] at C2
   rw [e1]
   clear h hO hg e1 h32 hil hQ p1 p2 p3 f1 f2 hm hs
   go_enter Tryz.func212, Tryz.ntmps212
   go_wp2_with fail
   refine C2.out.mono ?_
   rintro e w2 ⟨⟨A, n, c, rfl, h1, h2, h3⟩, b2⟩
   have HX : Hid (RetG w (some raw) (getZ id) (.returned (.tuple #[.slice A n c, I 0])) w2) := Lib.hid ⟨⟨A, n, c, rfl, h1, h2, h3⟩, b2⟩
   clear h1 h2 h3 b2 C2 rQ
   go_wp2
   go_ret2
   exact HX.out
 ·have e1 : getS R id = none := by unfold getS; rw [if_neg h32]
  have e2 : getZ id = 1 := by unfold getZ; rw [if_neg h32]
  rw [e1, e2]
  have C2 := Lib.hid (rlget_bad w r id hil h32)
  clear h hO e1 e2 h32 hil hQ
  go_enter Tryz.func212, Tryz.ntmps212
  go_wp2_with fail
  refine C2.out.mono ?_
  rintro e w2 ⟨rfl, b2⟩
  have B2 := Lib.hid b2
  clear b2 C2 rQ
  go_wp2
  go_ret2
  exact ⟨rfl, B2.out⟩
def RetRPut (r : Nat) (cap : Int) (l : List DF) (R : List (List UInt8)) (raw : List UInt8) (w : World) (e : Ending) (w' : World) : Prop :=
 e = .returned (.tuple #[S (if putZ R raw = 0 then sumL raw else []), I (putZ R raw)]) ∧ (∃ l', RdAt w' r cap l' ∧ RObj l' (putR R raw) ∧ costs l' ≤ costs l + 2 * raw.length + 200) ∧ Fr (fun j => j = r) w w'
set_option maxRecDepth 100000 in
set_option maxHeartbeats 8000000 in
theorem rsput_any (w : World) (q r : Nat) (cap : Int) (l : List DF) (R : List (List UInt8)) (raw : List UInt8) (A : Option Addr) (k c : Nat) (hQ : RStAt w q r) (h : RdAt w r cap l) (hO : RObj l R) (hA : SlT (fun _ => True) 5 w 1 A k (u8s raw)) (hkc : k ≤ c)
  (hf : 0 < raw.length ∧ raw.length ≤ 1100000 ∧ DecOk raw) (hD : RDecOk raw) (hcap : cap ≤ 1099511627776) (hcost : costs l ≤ 10000000) (hroom : (costs l : Int) + 3000000 ≤ cap) :
  Calls Tryz.prog 131 #[.pointer (some ⟨q, 0, none⟩), .slice A k c] w (RetRPut r cap l R raw w) := by
 have hk : raw.length = k := u8s_len hA.sl
 have hf2 := hf.2.1
 have hlen := len_costs l
 obtain ⟨id, hid⟩ : ∃ id, id = sumL raw := ⟨_, rfl⟩
 have hl : id.length = 32 := by rw [hid]; exact sumL_len raw
 have HQ := Lib.hid hQ
 have HR0 := Lib.hid h
 have HO := Lib.hid hO
 have HA := Lib.hid hA
 have Hid9 := Lib.hid hid
 have Hf := Lib.hid hf
 have HDr := Lib.hid hD
 have C0 := Lib.hid (fun V (hV : Below w.heap.size w V) => rsum_exact A k c raw V (hA.sl.below hV) (by omega))
 rw [← hid] at C0
 have CD := Lib.hid (hD w A k c hA.sl hkc)
 have CG := Lib.hid (fun V (hV : Below w.heap.size w V) => rsget_any V q r cap l R id (Blk.step hQ hV) (h.step hV) hO (by omega) (by omega))
 have CL : Hid (getObj R id = none → ∀ V, Below w.heap.size w V → Calls Tryz.prog 213 #[.pointer (some ⟨r, 0, none⟩), .slice A k c] V _) := Lib.hid (fun hg V (hV : Below w.heap.size w V) => rlput_any V r cap l R raw A k c (hA.step hV) hkc (h.step hV) hO (by rw [← hid]; exact hg) hf.1 hf.2.1 hD hcap hcost hroom)
 have Hgs : Hid (getS R id = getObj R id ∧ getZ id = 6) := Lib.hid ⟨by unfold getS; rw [if_pos hl], by unfold getZ; rw [if_pos hl]⟩
 clear hQ h hO hA hD hid hl hf hlen
 go_enter Tryz.func131, Tryz.ntmps131
 go_wp2_with fail
 refine CD.out.mono ?_
 rintro e w2 ⟨⟨ok, dA, dn, dc, eA, en, ec, rfl⟩, b2⟩
 obtain ⟨w3, hw3⟩ : ∃ w3, w3 = w2.alloc (.cells (objV ok dA dn dc eA en ec) 110) := ⟨_, rfl⟩
 have b3 : Below w2.heap.size w2 w3 := by rw [hw3]; exact balloc (Below.refl _ _) _
 have B3 := Lib.hid (bstep b2 b3)
 clear b2 b3 CD
 go_wp2_with fail
 rw [← hw3]
 clear hw3
 refine (C0.out w3 B3.out).mono ?_
 rintro e w5 ⟨rfl, b5⟩
 have B5 := Lib.hid (bstep B3.out b5)
 clear b5 C0
 go_wp2_with fail
 refine (CG.out w5 B5.out).mono ?_
 rintro e w6 hret
 rw [Hgs.out.1, Hgs.out.2] at hret
 rcases hg : getObj R id with _ | r9
 ·rw [hg] at hret
  obtain ⟨rfl, b6⟩ := hret
  have B6 := Lib.hid (bstep B5.out b6)
  have CP := Lib.hid (CL.out hg w6 B6.out)
  have rg := (Blk.step HQ.out B6.out).cell
  have Hg := Lib.hid hg
  clear hg b6 CG CL
  go_wp2_with fail
  refine CP.out.mono ?_
  rintro e w7 ⟨rfl, ⟨hd, hd', pr, h1, h3, h4⟩, h5⟩
  have H7 : Hid (RetRPut r cap l R raw w (.returned (.tuple #[S (sumL raw), I 0])) w7) := Lib.hid (by
   have hz : putZ R raw = 0 := by unfold putZ; rw [← Hid9.out, Hg.out]
   have hR : putR R raw = raw :: R := by unfold putR; rw [← Hid9.out, Hg.out]
   have hg2 : getObj R (sumL raw) = none := by rw [← Hid9.out]; exact Hg.out
   refine ⟨by rw [hz, if_pos rfl], ⟨_, h1, ?_, HO.out.put_costs raw pr hd hd' h4⟩, (Fr.of_below B6.out).trans h5⟩
   rw [hR]
   exact HO.out.put hd hd' hg2 h3 h4 Hf.out HDr.out)
  clear h1 h3 h4 h5 CP rg
  go_wp2
  go_ret2
  exact H7.out
 ·rw [hg] at hret
  obtain ⟨⟨A6, n6, c6, rfl, h6, h7, h8⟩, b6⟩ := hret
  have B6 := Lib.hid (bstep B5.out b6)
  have k1 := run_conv_str (P := Tryz.prog) w6 27 9 5 A6 n6 c6 r9 Tryz.underlying27 Tryz.underlying5 Tryz.underlying9 h6
  have k2 := run_conv_str (P := Tryz.prog) w6 27 9 5 A k c raw Tryz.underlying27 Tryz.underlying5 Tryz.underlying9 (HA.out.sl.below B6.out)
  have Hg := Lib.hid hg
  have HR : Hid (∀ w7, Below w.heap.size w w7 → RetRPut r cap l R raw w (.returned (.tuple #[S (if putZ R raw = 0 then sumL raw else []), I (putZ R raw)])) w7) := Lib.hid (fun w7 b7 => by
   have hR : putR R raw = R := by unfold putR; rw [← Hid9.out, Hg.out]
   exact ⟨rfl, ⟨l, HR0.out.step b7, by rw [hR]; exact HO.out, by omega⟩, Fr.of_below b7⟩)
  have hways : ((r9 == raw) = true ∧ putZ R raw = 0) ∨ ((r9 == raw) = false ∧ putZ R raw = 7) := by
   by_cases he : r9 = raw
   ·exact .inl ⟨beq_iff_eq.2 he, by unfold putZ; rw [← Hid9.out, Hg.out]; exact if_pos he⟩
   ·exact .inr ⟨beq_eq_false_iff_ne.2 he, by unfold putZ; rw [← Hid9.out, Hg.out]; exact if_neg he⟩
  clear hg h6 h7 h8 b6 CG CL
  rcases hways with ⟨d1, d2⟩ | ⟨d1, d2⟩
  ·rw [d2] at HR
   clear d2
   go_wp2
   go_ret2
   have h9 := HR.out w6 B6.out
   rw [if_pos trivial, ← Hid9.out] at h9
   exact h9
  ·rw [d2] at HR
   clear d2
   go_wp2
   go_ret2
   exact HR.out w6 B6.out
set_option maxRecDepth 100000 in
set_option maxHeartbeats 4000000 in
/-- a blob that may be is added -/
theorem rsadd_blob (w : World) (q r : Nat) (cap : Int) (l : List DF) (R : List (List UInt8)) (data : List UInt8) (A : Option Addr) (k c : Nat) (hQ : RStAt w q r) (h : RdAt w r cap l) (hO : RObj l R) (hA : Sl w 1 A k (u8s data))
  (hd : data.length ≤ 1048576) (hcap : cap ≤ 1099511627776) (hcost : costs l ≤ 10000000) (hroom : (costs l : Int) + 3000000 ≤ cap) :
  Calls Tryz.prog 55 #[.pointer (some ⟨q, 0, none⟩), .agg (blobA A k c)] w (RetRPut r cap l R (1 :: data) w) := by
 have hk : data.length = k := u8s_len hA
 obtain ⟨w1, hw1⟩ : ∃ w1, w1 = w.alloc (.cells (blobA A k c) 110) := ⟨_, rfl⟩
 have b1 : Below w.heap.size w w1 := by rw [hw1]; exact balloc (Below.refl _ _) _
 have B1 := Lib.hid b1
 have CE := Lib.hid (rpenc_ok A k c data w1 (hA.below b1) (by omega))
 have CP := Lib.hid (fun V (hV : Below w.heap.size w V) (A' : Option Addr) (c' : Nat) (h1 : SlT (fun _ => True) 5 V 1 A' (1 + k) (u8s (1 :: data))) (h2 : 1 + k ≤ c') => rsput_any V q r cap l R (1 :: data) A' (1 + k) c' (Blk.step hQ hV) (h.step hV) hO h1 h2 ⟨by simp, by simp only [List.length_cons]; omega, decOk_blob hd⟩ (rdecOk_blob hd) hcap hcost hroom)
 have Hw1 := Lib.hid hw1
 clear hQ h hO hA hd hroom hw1 b1
 go_enter Tryz.func55, Tryz.ntmps55
 go_wp2_with fail
 rw [← Hw1.out]
 refine CE.out.mono ?_
 rintro e w2 ⟨A2, c2, rfl, hO2⟩
 have B2 := Lib.hid (bstep B1.out hO2.2)
 have CP2 := Lib.hid (CP.out w2 B2.out A2 c2 (hO2.slT.weak (fun _ _ _ => trivial)) hO2.cap.1)
 clear hO2 CE CP
 go_wp2_with fail
 refine CP2.out.mono ?_
 rintro e w3 ⟨rfl, ⟨l', h1, h2, h3⟩, h4⟩
 have HX : Hid (RetRPut r cap l R (1 :: data) w (.returned (.tuple #[S (if putZ R (1 :: data) = 0 then sumL (1 :: data) else []), I (putZ R (1 :: data))])) w3) := Lib.hid ⟨rfl, ⟨l', h1, h2, h3⟩, (Fr.of_below B2.out).trans h4⟩
 obtain ⟨z9, hz9⟩ : ∃ z9, z9 = putZ R (1 :: data) := ⟨_, rfl⟩
 obtain ⟨i9, hi9⟩ : ∃ i9, i9 = (if putZ R (1 :: data) = 0 then sumL (1 :: data) else []) := ⟨_, rfl⟩
 rw [← hi9, ← hz9] at HX ⊢
 clear h1 h2 h3 h4 CP2 hz9 hi9
 go_wp2
 go_ret2
 exact HX.out
set_option maxRecDepth 100000 in
set_option maxHeartbeats 4000000 in
/-- a blob that is too long is not -/
theorem rsadd_no (w : World) (q : Nat) (data : List UInt8) (A : Option Addr) (k c : Nat) (hA : Sl w 1 A k (u8s data)) (hd : ¬ data.length ≤ 1048576) :
  Calls Tryz.prog 55 #[.pointer (some ⟨q, 0, none⟩), .agg (blobA A k c)] w fun e w' => e = .returned (.tuple #[S [], I 1]) ∧ Below w.heap.size w w' := by
 have hk : data.length = k := u8s_len hA
 have CE := Lib.hid (rpenc_no A k c (w.alloc (.cells (blobA A k c) 110)) (by omega))
 clear hA hd
 go_enter Tryz.func55, Tryz.ntmps55
 go_wp2_with fail
 refine CE.out.mono ?_
 rintro e w2 ⟨rfl, b2⟩
 have B2 := Lib.hid (bstep (balloc (Below.refl _ w) (.cells (blobA A k c) 110)) b2)
 clear b2 CE
 go_wp2
 go_ret2
 exact ⟨rfl, B2.out⟩
def RetRObj (R : List (List UInt8)) (id : List UInt8) (w : World) (e : Ending) (w' : World) : Prop :=
 (match getS R id with
  | none => e = .returned (.tuple #[.agg noObj, I (getZ id)])
  | some raw => ∃ (A' : Option Addr) (c' : Nat), e = .returned (.tuple #[.agg (blobA A' raw.tail.length c'), I 0]) ∧ raw.tail.length ≤ c' ∧ Sl w' 1 A' raw.tail.length (u8s raw.tail)) ∧ Below w.heap.size w w'
set_option maxRecDepth 100000 in
set_option maxHeartbeats 8000000 in
theorem rsobj_any (w : World) (q r : Nat) (cap : Int) (l : List DF) (R : List (List UInt8)) (id : List UInt8) (hS : RStAt w q r) (h : RdAt w r cap l) (hO : RObj l R) (hB : Blobs R) (hll : l.length ≤ 999999) (hl : id.length ≤ 9000000000000000000) :
  Calls Tryz.prog 218 #[.pointer (some ⟨q, 0, none⟩), S id, I 1] w (RetRObj R id w) := by
 obtain ⟨g6, hg6⟩ : ∃ g6, g6 = w.heap.size := ⟨_, rfl⟩
 obtain ⟨w1, hw1⟩ : ∃ w1, w1 = w.alloc (.cells noObj 110) := ⟨_, rfl⟩
 have b1 : Below w.heap.size w w1 := by rw [hw1]; exact balloc (Below.refl _ _) _
 have HG1 : Hid (Blk w1 g6 110 noObj) := Lib.hid (by rw [hw1, hg6]; exact Blk.new w _ _)
 have B1 := Lib.hid b1
 have CG := Lib.hid (rsget_any w1 q r cap l R id (Blk.step hS b1) (h.step b1) hO hll hl)
 have HB := Lib.hid (fun raw (hg : getS R id = some raw) => hB raw (by
  unfold getS at hg
  split at hg
  ·exact (getObj_mem hg).1
  ·cases hg))
 have Hg6 := Lib.hid hg6
 have Hw1 := Lib.hid hw1
 have hz : (getZ id != 0) = true := by unfold getZ; split <;> rfl
 obtain ⟨z, hzz⟩ : ∃ z, z = getZ id := ⟨_, rfl⟩
 clear hS h hO hB hl b1 hg6 hw1
 go_enter Tryz.func218, Tryz.ntmps218
 go_wp2_with fail
 simp only [← Hg6.out]
 rw [← Hw1.out]
 refine CG.out.mono ?_
 rintro e w2 hret
 rcases hg : getS R id with _ | raw
 ·rw [hg] at hret
  obtain ⟨rfl, b2⟩ := hret
  have B2 := Lib.hid (bstep B1.out b2)
  have HG2 := Lib.hid (HG1.out.step b2)
  have y2 := HG2.out.cell
  have f2 := HG2.out.frozen
  have Hg := Lib.hid hg
  rw [← hzz] at hz ⊢
  have Hz := Lib.hid hzz
  clear hg b2 CG hzz
  go_wp2
  generalize hW9 : ((((((((((w2.setCell ⟨g6, 0, none⟩ (Value.int .i64 0)).setCell ⟨g6, 1, none⟩ (Value.slice none 0 0)).setCell ⟨g6, 2, none⟩ (Value.slice none 0 0)).setCell ⟨g6, 3, none⟩ (Value.string ⟨#[]⟩)).setCell ⟨g6, 4, none⟩ (Value.slice none 0 0)).setCell ⟨g6, 5, none⟩ (Value.string ⟨#[]⟩)).setCell ⟨g6, 6, none⟩ (Value.string ⟨#[]⟩)).setCell ⟨g6, 7, none⟩ (Value.string ⟨#[]⟩)).setCell ⟨g6, 8, none⟩ (Value.int .i64 0)).setCell ⟨g6, 9, none⟩ (Value.string ⟨#[]⟩)) = W9
  have H9 := Lib.hid (obj_set HG2.out _ _ _ _ _ _ _ _ _ _ hW9)
  clear hW9 y2 f2
  refine bodyPost_ret (res_obj (fn := Tryz.f218) (p := 6) (u := 7) rfl _ W9 g6 noObj rfl H9.out.1 rfl) rfl ?_
  unfold RetRObj
  rw [Hg.out, ← Hz.out]
  exact ⟨rfl, B2.out.trans (H9.out.2.below B2.out.size (fun k e => by rw [e, Hg6.out]; exact Nat.le_refl _))⟩
 ·rw [hg] at hret
  obtain ⟨⟨A2, n2, c2, rfl, h6, h7, h8⟩, b2⟩ := hret
  obtain ⟨data, rfl, hdl⟩ := HB.out raw hg
  have B2 := Lib.hid (bstep B1.out b2)
  have CD := Lib.hid (rdec_blob A2 n2 c2 data w2 h6 h7 hdl)
  have HG2 := Lib.hid (HG1.out.step b2)
  have Hg := Lib.hid hg
  clear hg h6 h7 h8 b2 CG hz hzz
  go_wp2_with fail
  refine CD.out.mono ?_
  rintro e w3 ⟨⟨g, c', rfl, hc3, hS3⟩, b3⟩
  obtain ⟨g10, hg10⟩ : ∃ g10, g10 = w3.heap.size := ⟨_, rfl⟩
  obtain ⟨w4, hw4⟩ : ∃ w4, w4 = w3.alloc (.cells (blobA g data.length c') 110) := ⟨_, rfl⟩
  have b4 : Below w3.heap.size w3 w4 := by rw [hw4]; exact balloc (Below.refl _ _) _
  have HG10 : Hid (Blk w4 g10 110 (blobA g data.length c')) := Lib.hid (by rw [hw4, hg10]; exact Blk.new w3 _ _)
  have B4 := Lib.hid (bstep (bstep B2.out b3) b4)
  have HG4 := Lib.hid ((HG2.out.step b3).step b4)
  have HS4 := Lib.hid (hS3.step b4)
  have y4 := HG4.out.cell
  have f4 := HG4.out.frozen
  rw [hw4] at y4 f4
  have Hw4 := Lib.hid hw4
  clear hS3 b3 b4 CD hw4 hg10
  go_wp2
  rw [← Hw4.out]
  generalize hW9 : ((((((((((w4.setCell ⟨g6, 0, none⟩ (Value.int .i64 1)).setCell ⟨g6, 1, none⟩ (Value.slice g data.length c')).setCell ⟨g6, 2, none⟩ (Value.slice none 0 0)).setCell ⟨g6, 3, none⟩ (Value.string ⟨#[]⟩)).setCell ⟨g6, 4, none⟩ (Value.slice none 0 0)).setCell ⟨g6, 5, none⟩ (Value.string ⟨#[]⟩)).setCell ⟨g6, 6, none⟩ (Value.string ⟨#[]⟩)).setCell ⟨g6, 7, none⟩ (Value.string ⟨#[]⟩)).setCell ⟨g6, 8, none⟩ (Value.int .i64 0)).setCell ⟨g6, 9, none⟩ (Value.string ⟨#[]⟩)) = W9
  have H9 := Lib.hid (obj_set HG4.out _ _ _ _ _ _ _ _ _ _ hW9)
  have HS9 := Lib.hid (HS4.out.keep (KeepT.of_fr H9.out.2 (fun q cs fr e => by subst e; exact Blk.type HG4.out (by decide) cs fr)))
  clear hW9 y4 f4
  refine bodyPost_ret (res_obj (fn := Tryz.f218) (p := 6) (u := 7) rfl _ W9 g6 (blobA g data.length c') rfl H9.out.1 rfl) rfl ?_
  unfold RetRObj
  rw [Hg.out]
  exact ⟨⟨g, c', rfl, hc3, HS9.out.sl⟩, B4.out.trans (H9.out.2.below B4.out.size (fun k e => by rw [e, Hg6.out]; exact Nat.le_refl _))⟩
set_option maxRecDepth 100000 in
set_option maxHeartbeats 1000000 in
theorem rdump_nil (w : World) (r : Nat) (cap : Int) (h : RdAt w r cap []) :
  Calls Tryz.prog 125 #[.pointer (some ⟨r, 0, none⟩)] w fun e w' => e = .returned (.slice none 0 0) ∧ w' = w := by
 obtain ⟨A, n, c, done, hB, hc, hS, _⟩ := h
 obtain rfl : 0 = n := rds_count hS.sl
 have rB := hB.cell
 clear hB hS hc
 go_enter Tryz.func125, Tryz.ntmps125
 go_wp2
 go_loopw [3, 4] (fun sv iv wr => sv = .slice none 0 0 ∧ iv = .int .i64 0 ∧ wr = w) (fun _ _ _ => 0)
 case atStart => exact ⟨rfl, rfl, rfl⟩
 case round =>
  obtain ⟨rfl, rfl, hwr⟩ := hrel
  subst hwr
  go_wp2
  go_ret
  exact ⟨rfl, rfl⟩
set_option maxRecDepth 100000 in
set_option maxHeartbeats 1000000 in
theorem rsopen_nil (w : World) (r : Nat) (cap : Int) (h : RdAt w r cap []) :
  Calls Tryz.prog 53 #[.pointer (some ⟨r, 0, none⟩)] w fun e w' => ∃ q : Nat, e = .returned (.tuple #[.pointer (some ⟨q, 0, none⟩), I 0]) ∧ RStAt w' q r ∧ w.heap.size ≤ q ∧ Below w.heap.size w w' := by
 have CD := Lib.hid (rdump_nil w r cap h)
 clear h
 go_enter Tryz.func53, Tryz.ntmps53
 go_wp2_with fail
 refine CD.out.mono ?_
 rintro e w1 ⟨rfl, hw1⟩
 have hw2 := hw1.symm
 subst hw2
 clear CD
 go_wp2
 go_loopw [5] (fun iv wr => iv = .int .i64 0 ∧ wr = w) (fun _ _ => 0)
 case atStart => exact ⟨rfl, rfl⟩
 case round =>
  obtain ⟨rfl, hwr⟩ := hrel
  subst hwr
  go_wp2
  go_ret2
  exact ⟨_, rfl, Blk.new _ _ _, Nat.le_refl _, balloc (Below.refl _ _) _⟩
end Go.Proofs.YtphnfcgdpdimbaaGreatDoor

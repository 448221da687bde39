/-
  Base texts, merged by a program (mkkit.py): words for slices, blocks, maps, regions that draw their order, the plain law of paths and of an index. Conditions: each lemma's own.
-/
import Derived.Test.YtphnfcgdpdimbaaGreatDoorKitH
import Derived.Test.YtphnfcgdpdimbaaGreatDoorStands20
import Derived.Test.YtphnfcgdpdimbaaGreatDoorIdxDrop
import Derived.Test.YtphnfcgdpdimbaaGreatDoorWorkPut
import Derived.Test.YtphnfcgdpdimbaaGreatDoorKitX
import Derived.Test.YtphnfcgdpdimbaaGreatDoorKitW
import Derived.Test.YtphnfcgdpdimbaaGreatDoorWorldV
import Derived.Test.YtphnfcgdpdimbaaGreatDoorDiskNew
/-
  dolmenref04: Append, where there is room. Conditions: the disk lies in memory; a name that may be; no more than 64 bytes.
-/
namespace Go.Proofs.YtphnfcgdpdimbaaGreatDoor
open Go.RowKit

theorem oldR_le (l : List DF) (s : List UInt8) : (oldR l s).length ≤ costs l := by
  unfold oldR
  split
  · rename_i hh
    obtain ⟨x, hx, _⟩ := rf_has hh
    rw [hx]
    have := one_costs (List.mem_of_getElem? hx)
    simp
    omega
  · simp
theorem RdAt.kept {w w' : World} {r : Nat} {cap : Int} {l : List DF} (h : RdAt w r cap l) (hf : Fr (fun k => k = r) w w') : KeepT 5 w w' := by
  obtain ⟨A, n, c, done, hB, _⟩ := h
  exact KeepT.of_fr hf (fun k cs fr e => by subst e; exact Blk.type hB (by decide) cs fr)
theorem u8s_snoc9 {w : World} {A : Option Addr} {n : Nat} {a b : List UInt8} (h : Sl w 1 A n (u8s a ++ u8s b)) : Sl w 1 A n (u8s (a ++ b)) := by
  unfold u8s at h ⊢
  rwa [List.map_append]
theorem ow_small {w w' : World} {A : Option Addr} {n c N : Nat} {l : List UInt8} (h : Ow w w' 5 1 A n c (u8s l)) (hl : l.length ≤ N) : n ≤ N := by
  have := h.len
  simp [u8s] at this
  omega
set_option maxRecDepth 100000 in
set_option maxHeartbeats 8000000 in
theorem rdappend_ok (w : World) (r : Nat) (cap : Int) (l : List DF) (s : List UInt8) (A : Option Addr) (k cb : Nat) (b : List UInt8) (h : RdAt w r cap l) (hc : (costs l : Int) ≤ cap) (hcap : cap ≤ 2000000) (hs : okName s = true) (hA : SlT (fun _ => True) 5 w 1 A k (u8s b)) (hk : k ≤ 64)
    (hf : ((k + (if rfHas l s then 0 else 16 + s.length) : Nat) : Int) ≤ cap - costs l) :
    Calls Tryz.prog 157 #[.pointer (some ⟨r, 0, none⟩), S s, .slice A k cb] w fun e w' => e = .returned (I 0) ∧ (∃ hd : Hd, RdAt w' r cap (rdPut l s hd (oldR l s ++ b))) ∧ Fr (fun k => k = r) w w' := by
  have hsl := (okName_len hs).2
  have hlen := len_costs l
  have hl : l.length ≤ 999998 := by omega
  have hl9 : l.length ≤ 999999 := by omega
  have hk9 : k ≤ 100000000 := by omega
  have hold := oldR_le l s
  have C1 := Lib.hid (rdnamed_any w s (by omega))
  rw [hs] at C1
  obtain ⟨A0, n0, c0, done, hB, _⟩ := id h
  have rc := hB.cell 4
  have HB := Lib.hid hB
  have HR := Lib.hid h
  have HA := Lib.hid hA
  have CF := Lib.hid (fun V hV => rdfree_any V r cap l hV (by omega) (by omega) (by omega))
  obtain ⟨fr, hfr⟩ : ∃ fr : Int, fr = cap - costs l := ⟨_, rfl⟩
  rw [← hfr] at CF hf
  have Hfr := Lib.hid hfr
  obtain ⟨j0, hj0, hy0, hy1, hy2⟩ := info_parts Tryz.infoU8
  have d64 : decide ((64 : Int) < (k : Int)) = false := decide_eq_false (by omega)
  clear hB hA hfr
  rcases hh : rfHas l s with _ | _
  · have C2 := Lib.hid (rdread_no w r cap l s h (by omega) hs hh)
    have ho : oldR l s = [] := by unfold oldR; rw [hh]; rfl
    rw [hh] at hf
    rw [ho]
    have q1 : 0 + k ≤ maxLen := by simp only [maxLen]; omega
    have q2 : (0 + k) * 1 ≤ 140737488355328 := by omega
    have k1 : IntKind.i64.wrap ((k : Int) + 16) = (k : Int) + 16 := IntWalk.i64_in _ (by omega)
    have k2 : IntKind.i64.wrap ((k : Int) + 16 + (s.length : Int)) = (k : Int) + 16 + (s.length : Int) := IntWalk.i64_in _ (by omega)
    have d1 : decide (fr < (k : Int) + 16 + (s.length : Int)) = false := decide_eq_false (by simp at hf; omega)
    clear h hs hh hf hc ho hold hlen
    go_enter Tryz.func157, Tryz.ntmps157
    go_wp2_with (first
      | (go_at_call 82; refine C1.out.mono ?_; rintro e w1 ⟨rfl, h1⟩; obtain rfl := h1.symm; clear h1)
      | (go_at_call 230; refine C2.out.mono ?_; rintro e w2 ⟨rfl, m2, hw2⟩; have b2 : Below w.heap.size w w2 := (by rw [hw2]; exact below_drewN (Below.refl _ w) m2); have B2 := Lib.hid b2; have CF2 := Lib.hid (CF.out _ (HR.out.step b2)); have rc2 := (HB.out.step b2).cell 4; clear hw2 b2)
      | (go_at_call 85; refine CF2.out.mono ?_; rintro e w3 ⟨rfl, m3, hw3⟩; have b3 : Below w.heap.size w w3 := (by rw [hw3]; exact bstep B2.out (below_drewN (Below.refl _ w2) m3)); have B3 := Lib.hid b3; have C4 := Lib.hid (rdspend_any _ r cap l (HR.out.step b3)); clear hw3 b3)
      | (go_at_call 228; refine C4.out.mono ?_; rintro e w4 ⟨rfl, x4, hw4⟩; have F4 : Hid (Fr (fun k => k = r) w w4) := Lib.hid (by rw [hw4]; exact (Fr.of_below B3.out).trans (fr_tick _ _ _)); have H4 : Hid (RdAt w4 r cap l) := Lib.hid (by rw [hw4]; exact (HR.out.step B3.out).tick x4); have HA4 := Lib.hid (HA.out.keep (HR.out.kept F4.out)); clear hw4)
      | (at_builtin; refine wpList_append_sl _ rfl (.tmp 50) (.tmp 51) _ rfl w4 5 j0 _ 1 1 Tryz.underlying27 hj0 hy0 hy1 hy2 rfl Nat.one_pos none 0 0 [] rfl (Ow.nil_ (Below.refl _ w4)) A k _ (u8s b) rfl HA4.out.sl (one_u8s _) q1 q2 ?_; intro A7 c7 w7 hO7 hg7 hat7; have C5 := Lib.hid (rdput_any w7 r cap l s (H4.out.step hO7.2) hl9 A7 k c7 b (by have h := hO7.sl; rwa [Nat.zero_add, List.nil_append] at h) hk9); have B7 := Lib.hid hO7.2; clear hO7 hg7 hat7)
      | (go_at_call 84; refine C5.out.mono ?_; rintro e w8 ⟨rfl, ⟨hd, hdn, h8⟩, f8⟩; have H8 := Lib.hid h8; have F8 := Lib.hid f8; clear h8 f8))
    go_ret
    exact ⟨rfl, ⟨hd, H8.out⟩, F4.out.trans ((Fr.of_below B7.out).trans F8.out)⟩
  · have C2 := Lib.hid (rdread_yes w r cap l s h (by omega) hs hh (by omega))
    rw [hh] at hf
    have d1 : decide (fr < (k : Int)) = false := decide_eq_false (by simp at hf; omega)
    obtain ⟨o, ho⟩ : ∃ o, o = oldR l s := ⟨_, rfl⟩
    rw [← ho] at C2 hold
    have Ho := Lib.hid ho
    have hol : o.length ≤ 2000000 := by omega
    have hq : ∀ m2 : Nat, m2 ≤ 2000000 → m2 + k ≤ maxLen ∧ (m2 + k) * 1 ≤ 140737488355328 ∧ m2 + k ≤ 100000000 := fun m2 h2 => ⟨by simp only [maxLen]; omega, by omega, by omega⟩
    clear h hs hh hf hc ho hold hlen
    go_enter Tryz.func157, Tryz.ntmps157
    go_wp2_with (first
      | (go_at_call 82; refine C1.out.mono ?_; rintro e w1 ⟨rfl, h1⟩; obtain rfl := h1.symm; clear h1)
      | (go_at_call 230; refine C2.out.mono ?_; rintro e w2 ⟨A2, m2, c2, rfl, hO2⟩; obtain ⟨q1, q2, q3⟩ := hq m2 (ow_small hO2 hol); have HO2 := Lib.hid hO2; have B2 := Lib.hid hO2.2; have CF2 := Lib.hid (CF.out _ (HR.out.step hO2.2)); clear hO2)
      | (go_at_call 85; refine CF2.out.mono ?_; rintro e w3 ⟨rfl, m3, hw3⟩; have b3 : Below w.heap.size w w3 := (by rw [hw3]; exact bstep B2.out (below_drewN (Below.refl _ w2) m3)); have B3 := Lib.hid b3; have HO3 := Lib.hid (show Ow w w3 5 1 A2 m2 c2 (u8s o) by rw [hw3]; exact HO2.out.drewN m3); have C4 := Lib.hid (rdspend_any _ r cap l (HR.out.step b3)); clear hw3 b3)
      | (go_at_call 228; refine C4.out.mono ?_; rintro e w4 ⟨rfl, x4, hw4⟩; have F4 : Hid (Fr (fun k => k = r) w w4) := Lib.hid (by rw [hw4]; exact (Fr.of_below B3.out).trans (fr_tick _ _ _)); have HT4 : Hid (∀ A n c d, Blk w r 173 (rdC5 cap A n c d) → ∃ d', Blk w4 r 173 (rdC5 cap A n c d')) := Lib.hid (fun A n c d hb => ⟨x4, by rw [hw4]; exact blk_tick (hb.step B3.out) x4⟩); have HA4 := Lib.hid (HA.out.keep (HR.out.kept F4.out)); have ho4 : w4.ownsRow w.heap.size 5 1 (.slice A2 m2 c2) m2 (u8s o) := (by rw [hw4]; exact own_fr HO3.out.1 (fr_tick _ _ _) (fun k e => by subst e; exact HR.out.lt)); obtain ⟨V, hV, hOV⟩ := ow_cut ho4 (Nat.le_trans B3.out.size (by rw [hw4]; simp)); have HOV := Lib.hid hOV; have HV := Lib.hid hV; clear hw4 ho4 hV hOV)
      | (at_builtin; refine wpList_append_sl _ rfl (.tmp 50) (.tmp 51) _ rfl V 5 j0 _ 1 1 Tryz.underlying27 hj0 hy0 hy1 hy2 rfl Nat.one_pos A2 m2 c2 _ rfl HOV.out A k _ (u8s b) rfl HA4.out.sl (one_u8s _) q1 q2 ?_; intro A7 c7 w7 hO7 hg7 hat7; have hgr : ∀ i, (Value.slice A2 m2 c2).ownBlock = some i → w.heap.size ≤ i := (fun i e => by have := (HOV.out.1.lt i e).1; rwa [HV.out] at this); have F7 : Hid (Fr (fun k => k = r) w w7) := Lib.hid (F4.out.grow hg7 (fun i e => .inl (hgr i e))); have H7 : Hid (RdAt w7 r cap l) := Lib.hid (HR.out.again F7.out (fun A n c d hb => by obtain ⟨d', hb'⟩ := HT4.out A n c d hb; exact ⟨d', hb'.grown hg7 (fun e => by have := hgr r e.symm; have := HR.out.lt; omega)⟩)); have C5 := Lib.hid (rdput_any w7 r cap l s H7.out hl9 A7 (m2 + k) c7 (o ++ b) (u8s_snoc9 hO7.sl) q3); clear hO7 hg7 hat7 hgr)
      | (go_at_call 84; refine C5.out.mono ?_; rintro e w8 ⟨rfl, ⟨hd, hdn, h8⟩, f8⟩; have H8 := Lib.hid h8; have F8 := Lib.hid f8; clear h8 f8))
    go_ret
    exact ⟨rfl, ⟨hd, by have := H8.out; rwa [Ho.out] at this⟩, F7.out.trans F8.out⟩
end Go.Proofs.YtphnfcgdpdimbaaGreatDoor

/-
  dolmenref04: Rename onto a name that is no longer. Conditions: the disk lies in memory, in order; names that may be; the elder one is there.
-/
namespace Go.Proofs.YtphnfcgdpdimbaaGreatDoor
open Go.RowKit

theorem drop_len (l : List DF) (s : List UInt8) : (dropF l s).length ≤ l.length := List.length_filter_le _ _
set_option maxRecDepth 100000 in
set_option maxHeartbeats 8000000 in
theorem rdrename_ok (w : World) (r : Nat) (cap : Int) (l : List DF) (s t : List UInt8) (h : RdAt w r cap l) (hsr : Srt l) (hc : (costs l : Int) ≤ cap) (hcap : cap ≤ 2000000) (hs : okName s = true) (ht : okName t = true) (hh : rfHas l s = true) (hle : t.length ≤ s.length) :
    Calls Tryz.prog 159 #[.pointer (some ⟨r, 0, none⟩), S s, S t] w fun e w' => e = .returned (I 0) ∧ (∃ hd : Hd, RdAt w' r cap (rdPut (dropF l s) t hd (oldR l s))) ∧ Fr (fun k => k = r) w w' := by
  have hsl := (okName_len hs).2
  have htl := (okName_len ht).2
  have hlen := len_costs l
  have hl : l.length ≤ 999998 := by omega
  have hold := oldR_le l s
  have hdl := drop_len l s
  have C1 := Lib.hid (rdnamed_any w s (by omega))
  have C2 := Lib.hid (rdnamed_any w t (by omega))
  rw [hs] at C1
  rw [ht] at C2
  have C3 := Lib.hid (rdtouch_ok w r cap l s h (by omega) hs hh)
  have CH := Lib.hid (fun V hV => rdhas_any V r cap l t hV (by omega))
  have CF := Lib.hid (fun V hV => rdfree_any V r cap l hV (by omega) (by omega) (by omega))
  obtain ⟨fr, hfr⟩ : ∃ fr : Int, fr = cap - costs l := ⟨_, rfl⟩
  rw [← hfr] at CF
  have CR := Lib.hid (fun V hV => rdread_yes V r cap l s hV (by omega) hs hh (by omega))
  have CD := Lib.hid (fun V hV => rddrop_any V r cap l s hV (by omega) hh)
  rw [rf_cut hsr hh] at CD
  obtain ⟨l2, hl2⟩ : ∃ l2, l2 = dropF l s := ⟨_, rfl⟩
  obtain ⟨o, ho⟩ : ∃ o, o = oldR l s := ⟨_, rfl⟩
  rw [← hl2] at CD hdl ⊢
  rw [← ho] at CR hold ⊢
  have HR := Lib.hid h
  have d2 : decide ((s.length : Int) < (t.length : Int)) = false := decide_eq_false (by omega)
  have k1 : IntKind.i64.wrap ((t.length : Int) - (s.length : Int)) = (t.length : Int) - (s.length : Int) := IntWalk.i64_in _ (by omega)
  have d1 : decide (fr < (t.length : Int) - (s.length : Int)) = false := decide_eq_false (by omega)
  have hl9 : l2.length ≤ 999999 := by omega
  have hk9 : costs l ≤ 100000000 := by omega
  clear h hsr hc hs ht hh hfr hl2 ho
  rcases hht : rfHas l t with _ | _
  all_goals
    rw [hht] at CH
    clear hht
    go_enter Tryz.func159, Tryz.ntmps159
    go_wp2_with (first
      | (go_at_call 82; first | ((with_reducible refine C1.out.mono ?_); rintro e w1 ⟨rfl, h1⟩; obtain rfl := h1.symm; clear h1) | ((with_reducible refine C2.out.mono ?_); rintro e w1 ⟨rfl, h1⟩; obtain rfl := h1.symm; clear h1))
      | (go_at_call 227; refine C3.out.mono ?_; rintro e w2 ⟨rfl, m2, hw2⟩; have b2 : Below w.heap.size w w2 := (by rw [hw2]; exact below_drewN (Below.refl _ w) m2); have B2 := Lib.hid b2; have CH2 := Lib.hid (CH.out _ (HR.out.step b2)); clear hw2 b2)
      | (go_at_call 83; refine CH2.out.mono ?_; rintro e w3 ⟨rfl, m3, hw3⟩; have b3 : Below w.heap.size w w3 := (by rw [hw3]; exact bstep B2.out (below_drewN (Below.refl _ w2) m3)); have B3 := Lib.hid b3; have CF3 := Lib.hid (CF.out _ (HR.out.step b3)); have C4 := Lib.hid (rdspend_any _ r cap l (HR.out.step b3)); clear hw3 b3)
      | (go_at_call 85; refine CF3.out.mono ?_; rintro e w4 ⟨rfl, m4, hw4⟩; have b4 : Below w.heap.size w w4 := (by rw [hw4]; exact bstep B3.out (below_drewN (Below.refl _ w3) m4)); have B3 := Lib.hid b4; have C4 := Lib.hid (rdspend_any _ r cap l (HR.out.step b4)); clear hw4 b4)
      | (go_at_call 228; refine C4.out.mono ?_; rintro e w5 ⟨rfl, x5, hw5⟩; have F5 : Hid (Fr (fun k => k = r) w w5) := Lib.hid (by rw [hw5]; exact (Fr.of_below B3.out).trans (fr_tick _ _ _)); have H5 : Hid (RdAt w5 r cap l) := Lib.hid (by rw [hw5]; exact (HR.out.step B3.out).tick x5); have C5 := Lib.hid (CR.out w5 H5.out); clear hw5)
      | (go_at_call 230; refine C5.out.mono ?_; rintro e w6 ⟨A6, k6, c6, rfl, hO6⟩; have HO6 := Lib.hid hO6; have hk6 := ow_small hO6 hold; have C6 := Lib.hid (CD.out w6 (H5.out.step hO6.2)); clear hO6)
      | (go_at_call 229; refine C6.out.mono ?_; rintro e w7 ⟨rfl, h7, f7⟩; have F7 := Lib.hid f7; have hs7 := Sl.of_own (own_fr HO6.out.1 f7 (fun k e => by subst e; exact H5.out.lt)); have C7 := Lib.hid (rdput_any w7 r cap l2 t h7 hl9 A6 k6 c6 o hs7 (Nat.le_trans hk6 hk9)); clear h7 f7 hs7)
      | (go_at_call 84; refine C7.out.mono ?_; rintro e w8 ⟨rfl, ⟨hd, hdn, h8⟩, f8⟩; have H8 := Lib.hid h8; have F8 := Lib.hid f8; clear h8 f8))
    go_ret
    exact ⟨rfl, ⟨hd, H8.out⟩, ((F5.out.step HO6.out.2).trans F7.out).trans F8.out⟩
end Go.Proofs.YtphnfcgdpdimbaaGreatDoor

/-
  dolmenref05.Save. Conditions: the disk lies in memory, in order, holds no more than its room; a name that may be; the bytes can be read, one at least.
-/
namespace Go.Proofs.YtphnfcgdpdimbaaGreatDoor
open Go.RowKit

/-- the document's disk when j chunks were laid -/
def curR (l : List DF) (sh bs : List UInt8) (j : Nat) (hd : Hd) : List DF := if j = 0 then l else rdPut l sh hd (bs.take (64 * j))
section
variable {l : List DF} {sh bs : List UInt8} {j : Nat} {hd : Hd}
theorem curR_has (h : rfHas l sh = false) : rfHas (curR l sh bs j hd) sh = decide (0 < j) := by
  unfold curR
  by_cases hj : j = 0
  · rw [if_pos hj, h, hj]; rfl
  · rw [if_neg hj, (has_put l sh hd _).1, decide_eq_true (by omega)]
theorem curR_old (h : rfHas l sh = false) : oldR (curR l sh bs j hd) sh = bs.take (64 * j) := by
  unfold curR
  by_cases hj : j = 0
  · rw [if_pos hj, hj]
    unfold oldR
    rw [h]
    rfl
  · rw [if_neg hj, (has_put l sh hd _).2]
theorem curR_put (hd' : Hd) (b : List UInt8) : rdPut (curR l sh bs j hd) sh hd' b = rdPut l sh hd' b := by
  unfold curR
  split
  · rfl
  · exact put_again _ _ _ _ _ _
theorem rdput_costs (hs : Srt l) (h : rfHas l sh = false) (b : List UInt8) : costs (rdPut l sh hd b) = costs l + (16 + sh.length + b.length) := by
  rw [costs_perm ((put_perm hs hd b).map nb)]
  unfold putF
  rw [dropF_none (fun hm => by rw [(rf_iff hs).2 hm] at h; cases h)]
  show cost1 (sh, hd, b) + costs l = _
  unfold cost1
  simp only
  omega
theorem curR_costs (hs : Srt l) (h : rfHas l sh = false) : costs (curR l sh bs j hd) = costs l + (if j = 0 then 0 else 16 + sh.length + min (64 * j) bs.length) := by
  unfold curR
  by_cases hj : j = 0
  · rw [if_pos hj, if_pos hj]; rfl
  · rw [if_neg hj, if_neg hj, rdput_costs hs h, List.length_take]
theorem curR_srt (hs : Srt l) : Srt (curR l sh bs j hd) := by
  unfold curR
  split
  · exact hs
  · exact srt_put hs hd _
end
theorem has_drop {l : List DF} (hs : Srt l) (s : List UInt8) : rfHas (dropF l s) s = false := by
  cases h : rfHas (dropF l s) s with
  | false => rfl
  | true =>
    have h1 := (rf_iff (srt_drop hs s)).1 h
    obtain ⟨x, hx, e⟩ := List.mem_map.1 h1
    have := (List.mem_filter.1 hx).2
    simp [e] at this
set_option maxRecDepth 100000 in
theorem rshadow_no (s : List UInt8) (w : World) (hs0 : s ≠ []) (hs1 : Lib.hasSuffix s [126] = false) (hl : s.length ≤ 2147483648) :
    Calls Tryz.prog 154 #[S s] w fun e w' => e = .returned (.bool false) ∧ w' = w := by
  rcases List.eq_nil_or_concat s with rfl | ⟨t, x, rfl⟩
  · exact absurd rfl hs0
  have hx : x ≠ 126 := by
    rintro rfl
    unfold Lib.hasSuffix at hs1
    rw [Bool.eq_false_iff] at hs1
    exact hs1 (by rw [List.isSuffixOf_iff_suffix]; exact ⟨t, by simp⟩)
  have e1 : t.concat x = t ++ [x] := by simp
  rw [e1] at hl ⊢
  have hlen : (t ++ [x]).length = t.length + 1 := by simp
  have hat : (t ++ [x])[t.length]? = some x := by simp
  obtain ⟨s, hs⟩ : ∃ s, s = t ++ [x] := ⟨_, rfl⟩
  obtain ⟨k, hk⟩ : ∃ k, k = t.length := ⟨_, rfl⟩
  rw [← hs] at hl hlen hat ⊢
  rw [← hk] at hlen hat
  have hh : k < (⟨s.toArray⟩ : ByteArray).size := by show k < s.toArray.size; simp; omega
  have hv := byte_at hat hh
  have d1 : ((((⟨s.toArray⟩ : ByteArray)[k]'hh).toNat : Int) == 126) = false := by
    rw [hv]
    refine beq_eq_false_iff_ne.2 (fun e => hx ?_)
    exact UInt8.toNat_inj.1 (by have : x.toNat = 126 := by omega
                                rw [this]; rfl)
  have d2 : decide ((0 : Int) < (s.length : Int)) = true := decide_eq_true (by omega)
  have k1 : IntKind.i64.wrap ((s.length : Int) - 1) = (k : Int) := by rw [IntWalk.i64_in _ (by omega)]; omega
  clear hv hat hs hk hx e1 hs0 hs1
  go_enter Tryz.func154, Tryz.ntmps154
  go_wp2
  go_ret
  exact ⟨rfl, rfl⟩
set_option maxRecDepth 100000 in
theorem rneed_any (w : World) (s : List UInt8) (n : Nat) (hs : s.length ≤ 1000000) (hn : n ≤ 1000000000) :
    Calls Tryz.prog 156 #[S s, I n] w fun e w' => e = .returned (I (16 + s.length + 1 + n)) ∧ w' = w := by
  have k1 : IntKind.i64.wrap ((16 : Int) + s.length) = 16 + s.length := IntWalk.i64_in _ (by omega)
  have k2 : IntKind.i64.wrap ((16 : Int) + s.length + 1) = 16 + s.length + 1 := IntWalk.i64_in _ (by omega)
  have k3 : IntKind.i64.wrap ((16 : Int) + s.length + 1 + n) = 16 + s.length + 1 + n := IntWalk.i64_in _ (by omega)
  have k4 : max (n : Int) 0 = n := by omega
  go_enter Tryz.func156, Tryz.ntmps156
  go_wp2
  go_ret
  exact ⟨rfl, rfl⟩
end Go.Proofs.YtphnfcgdpdimbaaGreatDoor

/-
  dolmenref05.Save. Conditions: the disk lies in memory, in order, holds no more than its room; a name that may be; the bytes can be read, one at least.
-/
namespace Go.Proofs.YtphnfcgdpdimbaaGreatDoor
open Go.RowKit

/-- what Save leaves -/
def saveR (l : List DF) (s bs : List UInt8) (hd hd' : Hd) : List DF := rdPut (dropF (rdPut (dropF l (shName s)) (shName s) hd bs) (shName s)) s hd' bs
set_option maxRecDepth 100000 in
set_option maxHeartbeats 16000000 in
theorem rdsave_any (w : World) (r : Nat) (cap : Int) (l : List DF) (s : List UInt8) (A : Option Addr) (k c : Nat) (bs : List UInt8) (h : RdAt w r cap l) (hsr : Srt l) (hc : (costs l : Int) ≤ cap) (hcap : cap ≤ 2000000)
    (hA : SlT (fun _ => True) 5 w 1 A k (u8s bs)) (hk : 0 < k) (hk2 : k ≤ 2000000) (hkc : k ≤ c) (hs : okName (shName s) = true) (hs0 : s ≠ []) (hs1 : Lib.hasSuffix s [126] = false) :
    Calls Tryz.prog 87 #[.pointer (some ⟨r, 0, none⟩), S s, .slice A k c] w fun e w' => (e = .returned (I 4) ∧ cap - costs (dropF l (shName s)) < 16 + (s.length + 1) + k ∧ RdAt w' r cap (dropF l (shName s)) ∧ Fr (fun k => k = r) w w')
      ∨ (e = .returned (I 0) ∧ ((16 + (s.length + 1) + k : Nat) : Int) ≤ cap - costs (dropF l (shName s)) ∧ (∃ hd hd', RdAt w' r cap (saveR l s bs hd hd')) ∧ Fr (fun k => k = r) w w') := by
  obtain ⟨g, off, cs9, fr9, rfl, _, _⟩ := hA.2 (by omega)
  have hsh := (okName_len hs).2
  have hshl : (shName s).length = s.length + 1 := by unfold shName; simp
  have hos : okName s = true := by
    unfold okName at hs ⊢
    simp only [Bool.and_eq_true, decide_eq_true_eq] at hs ⊢
    obtain ⟨h1, h2, h3⟩ := hs
    exact ⟨List.length_pos_iff.2 hs0, by omega, no_zero s [126] h3⟩
  have hbl : bs.length = k := by have := hA.sl.1; simpa [u8s] using this
  have hcat : (⟨s.toArray⟩ : ByteArray) ++ ⟨#[126]⟩ = ⟨(shName s).toArray⟩ := ba_app s [126]
  have hq1 : s.isEmpty = false := by
    cases s with
    | nil => exact absurd rfl hs0
    | cons a r => rfl
  obtain ⟨sh, hshe⟩ : ∃ sh, sh = shName s := ⟨_, rfl⟩
  rw [← hshe] at hs hsh hshl hcat ⊢
  obtain ⟨l0, hl0⟩ : ∃ l0, l0 = dropF l sh := ⟨_, rfl⟩
  have hs0r : Srt l0 := by rw [hl0]; exact srt_drop hsr sh
  have hno : rfHas l0 sh = false := by rw [hl0]; exact has_drop hsr sh
  have hcl : costs l0 ≤ costs l := by rw [hl0]; exact costs_drop_le l sh (srt_keys hsr)
  have hlen := len_costs l
  have hlen0 := len_costs l0
  have C1 := Lib.hid (rdnamed_any w sh (by omega))
  rw [hs] at C1
  have C2 := Lib.hid (rshadow_no s w hs0 hs1 (by omega))
  have C3 := Lib.hid (rdhas_any w r cap l sh h (by omega))
  have CM := Lib.hid (fun V hV hh => rdremove_ok V r cap l sh hV (by omega) hsr hs hh)
  rw [← hl0] at CM
  have CF := Lib.hid (fun V hV => rdfree_any V r cap l0 hV (by omega) (by omega) (by omega))
  obtain ⟨fr, hfr⟩ : ∃ fr : Int, fr = cap - costs l0 := ⟨_, rfl⟩
  rw [← hfr] at CF
  have CN := Lib.hid (fun V => rneed_any V s k (by omega) (by omega))
  obtain ⟨nd, hnd⟩ : ∃ nd : Int, nd = 16 + s.length + 1 + k := ⟨_, rfl⟩
  rw [← hnd] at CN
  have HA := Lib.hid hA
  have HR := Lib.hid h
  have rc := (show ∃ A0 n0 c0 done, Blk w r 173 (rdC5 cap A0 n0 c0 done) from by obtain ⟨A0, n0, c0, done, hB, _⟩ := h; exact ⟨A0, n0, c0, done, hB⟩)
  obtain ⟨A0, n0, c0, done, hB⟩ := rc
  have rc := hB.cell 4
  clear hB h hA
  have Hshe := Lib.hid hshe
  clear hshe
  have Hl0 := Lib.hid hl0
  have Hfr := Lib.hid hfr
  have Hnd := Lib.hid hnd
  clear hl0 hfr hnd
  have CH := Lib.hid (fun V j hd (hV : RdAt V r cap (curR l0 sh bs j hd)) (hle : (costs (curR l0 sh bs j hd) : Int) ≤ cap) => rdhas_any V r cap _ sh hV (by have := len_costs (curR l0 sh bs j hd); omega))
  have CA := Lib.hid (fun V j hd (hV : RdAt V r cap (curR l0 sh bs j hd)) (hle : (costs (curR l0 sh bs j hd) : Int) ≤ cap) => rdappend_ok V r cap (curR l0 sh bs j hd) sh)
  have Hs0r := Lib.hid hs0r
  have Hno := Lib.hid hno
  have HShl := Lib.hid hshl
  have Hbl := Lib.hid hbl
  have Hsn := Lib.hid hs
  have Hon := Lib.hid hos
  have Hcl : Hid ((costs l0 : Int) ≤ cap) := Lib.hid (by omega)
  have Hkc := Lib.hid hkc
  have hsl9 : s.length ≤ 200 := by omega
  have hways : decide (fr < nd) = true ∨ decide (fr < nd) = false := by cases decide (fr < nd) <;> simp
  rcases hh : rfHas l sh with _ | _
  · have e0 : l0 = l := by
      rw [Hl0.out]
      exact dropF_none (fun hm => by rw [(rf_iff hsr).2 hm] at hh; cases hh)
    rw [hh] at C3
    have HR0 : Hid (RdAt w r cap l0) := Lib.hid (by rw [e0]; exact HR.out)
    clear hh CM e0 hos hs0 hs1 hs hcl hlen hlen0 hc hsr hsh hshl hbl hs0r hno
    go_enter Tryz.func87, Tryz.ntmps87
    go_wp2_with (first
      | (go_at_call 82; (with_reducible refine C1.out.mono ?_); rintro e w1 ⟨rfl, h1⟩; obtain rfl := h1.symm; clear h1)
      | (go_at_call 154; (with_reducible refine C2.out.mono ?_); rintro e w1 ⟨rfl, h1⟩; obtain rfl := h1.symm; clear h1))
    refine C3.out.mono ?_
    rintro e w2 ⟨rfl, m2, hw2⟩
    have b2 : Below w.heap.size w w2 := by rw [hw2]; exact below_drewN (Below.refl _ w) m2
    have F2 : Hid (Fr (fun k => k = r) w w2) := Lib.hid (Fr.of_below b2)
    have HR2 := Lib.hid (HR0.out.step b2)
    have HA2 := Lib.hid (HA.out.step b2)
    clear hw2 b2 C1 C2 C3 rc
    go_wp2_with fail
    refine (CF.out w2 HR2.out).mono ?_
    rintro e w3 ⟨rfl, m3, hw3⟩
    have b3 : Below w2.heap.size w2 w3 := by rw [hw3]; exact below_drewN (Below.refl _ w2) m3
    have F3 : Hid (Fr (fun k => k = r) w w3) := Lib.hid (F2.out.trans (Fr.of_below b3))
    have HR3 := Lib.hid (HR2.out.step b3)
    have HA3 := Lib.hid (HA2.out.step b3)
    clear hw3 b3 CF
    go_wp2_with fail
    refine (CN.out w3).mono ?_
    rintro e w4 ⟨rfl, h4⟩
    obtain rfl := h4.symm
    clear h4 CN
    rcases hways with d1 | d1
    · have HD := Lib.hid (of_decide_eq_true d1)
      go_wp2
      go_ret
      exact .inl ⟨rfl, by have h1 := HD.out; have h2 := Hfr.out; have h3 := Hnd.out; rw [← Hl0.out]; omega, by rw [← Hl0.out]; exact HR3.out, F3.out⟩
    · have HD := Lib.hid (of_decide_eq_false d1)
      go_wp2
      go_loopw [9] (fun v wr => ∃ (j a : Nat) (hd : Hd), a = min (64 * j) k ∧ 64 * j < k + 64 ∧ v = .int .i64 a ∧ Hid (RdAt wr r cap (curR l0 sh bs j hd)) ∧ Hid (Fr (fun k => k = r) w wr)) (fun v _ => k - (intOf v).toNat)
      case atStart => exact ⟨0, 0, ⟨none, 0, 0⟩, by simp, by omega, rfl, Lib.hid HR3.out, Lib.hid F3.out⟩
      case round =>
        obtain ⟨j, a, hd, ha, hj, rfl, hRj, hFj⟩ := hrel
        have hcst : costs (curR l0 sh bs j hd) = costs l0 + (if j = 0 then 0 else 16 + sh.length + a) := by rw [curR_costs Hs0r.out Hno.out, Hbl.out, ← ha]
        have hfits : ((16 + sh.length + k : Nat) : Int) ≤ cap - costs l0 := by have h1 := HD.out; have h2 := Hfr.out; have h3 := Hnd.out; have h4 := HShl.out; omega
        have hcc : (costs (curR l0 sh bs j hd) : Int) ≤ cap := by rw [hcst]; split <;> omega
        have hHA := Lib.hid (HA.out.keep (HR.out.kept hFj.out))
        have Ha := Lib.hid ha
        by_cases hlt : a < k
        · have ha2 : a = 64 * j := by omega
          obtain ⟨m, hm⟩ : ∃ m, m = min (k - a) 64 := ⟨_, rfl⟩
          have hmk : a + m ≤ k := by omega
          have hneed : ((m + (if rfHas (curR l0 sh bs j hd) sh then 0 else 16 + sh.length) : Nat) : Int) ≤ cap - costs (curR l0 sh bs j hd) := by
            rw [hcst, curR_has Hno.out]
            by_cases h0 : j = 0
            · subst h0; simp; omega
            · rw [if_neg h0, decide_eq_true (by omega), if_pos rfl]; omega
          have CAj := Lib.hid (rdappend_ok _ r cap (curR l0 sh bs j hd) sh (some ⟨g, off + a, none⟩) m (c - a) ((bs.drop a).take m) hRj.out hcc hcap Hsn.out (hHA.out.mid hmk) (by omega) hneed)
          have HQ : Hid (∀ hd' : Hd, rdPut (curR l0 sh bs j hd) sh hd' (oldR (curR l0 sh bs j hd) sh ++ (bs.drop a).take m) = curR l0 sh bs (j + 1) hd') := Lib.hid (fun hd' => by
            rw [curR_put, curR_old Hno.out, ha2, hm, ha2, cur_step k Hbl.out]
            unfold curR
            rw [if_neg (by omega)])
          have kc := fun V : World => run_cut_lh (P := Tryz.prog) V Tryz.underlying27 Tryz.sizeU8 (some ⟨g, off, none⟩) k c .i64 .i64 a (a + m) (by omega) (by omega)
          rw [cutA_at _ _ _ _ (by omega)] at kc
          have d2 : decide ((a : Int) < (k : Int)) = true := decide_eq_true (by omega)
          have k1 : IntKind.i64.wrap ((k : Int) - (a : Int)) = ((k - a : Nat) : Int) := by rw [IntWalk.i64_in _ (by omega)]; omega
          have k2 : IntKind.i64.wrap ((a : Int) + (m : Int)) = ((a + m : Nat) : Int) := by rw [IntWalk.i64_in _ (by omega)]; omega
          have hmi : min (64 : Int) ((k - a : Nat) : Int) = (m : Int) := by omega
          have Hj1 : Hid (a + m = min (64 * (j + 1)) k ∧ 64 * (j + 1) < k + 64 ∧ 0 < m) := Lib.hid (by omega)
          clear hcst hfits hcc ha hm hmk hneed ha2
          go_wp2_with fail
          refine CAj.out.mono ?_
          rintro e w5 ⟨rfl, ⟨hd', h5⟩, f5⟩
          have H5 : Hid (RdAt w5 r cap (curR l0 sh bs (j + 1) hd')) := Lib.hid (by rw [← HQ.out hd']; exact h5)
          have F5 := Lib.hid (hFj.out.trans f5)
          clear h5 f5 CAj HQ kc
          go_wp2
          go_roundw
          case rel => exact ⟨j + 1, a + m, hd', Hj1.out.1, Hj1.out.2.1, by go_num, H5, F5⟩
          case measure => have h9 := Hj1.out; simp [intOf]; omega
        · have hj0 : 0 < j := by omega
          have hfull : curR l0 sh bs j hd = rdPut l0 sh hd bs := by
            unfold curR
            rw [if_neg (by omega), List.take_of_length_le (by have := Hbl.out; omega)]
          rw [hfull] at hcc
          have HRj : Hid (RdAt wr r cap (rdPut l0 sh hd bs)) := Lib.hid (by have h9 := hRj.out; rwa [hfull] at h9)
          obtain ⟨hhas, hold⟩ := has_put l0 sh hd bs
          have hlen9 := len_costs (rdPut l0 sh hd bs)
          have hs9 := srt_put (s := sh) Hs0r.out hd bs
          have hle9 : s.length ≤ sh.length := by have := HShl.out; omega
          obtain ⟨l1, hl1⟩ : ∃ l1, l1 = rdPut l0 sh hd bs := ⟨_, rfl⟩
          rw [← hl1] at HRj hhas hold hlen9 hs9 hcc
          have CHj := Lib.hid (rdhas_any wr r cap l1 sh HRj.out (by omega))
          rw [hhas] at CHj
          have CS := Lib.hid (fun V hV => rdsync_ok V r cap l1 sh hV (by omega) Hsn.out hhas)
          have CR := Lib.hid (fun V hV => rdrename_ok V r cap l1 sh s hV hs9 hcc hcap Hsn.out Hon.out hhas hle9)
          rw [hold] at CR
          have Hl1 := Lib.hid hl1
          have d2 : decide ((a : Int) < (k : Int)) = false := decide_eq_false (by omega)
          have HF : Hid (((16 + (s.length + 1) + k : Nat) : Int) ≤ cap - costs l0) := Lib.hid (by have h1 := HShl.out; omega)
          clear hj0 hfull hcc hhas hold hlen9 hs9 hle9 hl1 hcst hfits ha
          go_wp2_with fail
          refine CHj.out.mono ?_
          rintro e w5 ⟨rfl, m5, hw5⟩
          have b5 : Below wr.heap.size wr w5 := by rw [hw5]; exact below_drewN (Below.refl _ wr) m5
          have F5 := Lib.hid (hFj.out.trans (Fr.of_below b5))
          have CS5 := Lib.hid (CS.out w5 (HRj.out.step b5))
          clear hw5 b5 CHj CS
          go_wp2_with fail
          refine CS5.out.mono ?_
          rintro e w6 ⟨rfl, h6, f6⟩
          have F6 := Lib.hid (F5.out.trans f6)
          have CR6 := Lib.hid (CR.out w6 h6)
          clear h6 f6 CS5 CR
          go_wp2_with fail
          refine CR6.out.mono ?_
          rintro e w7 ⟨rfl, ⟨hd', h7⟩, f7⟩
          have F7 := Lib.hid (F6.out.trans f7)
          have H7 := Lib.hid h7
          clear h7 f7 CR6
          go_wp2
          go_ret
          refine .inr ⟨rfl, by rw [← Hl0.out]; exact HF.out, ⟨hd, hd', ?_⟩, F7.out⟩
          unfold saveR
          rw [← Hshe.out, ← Hl0.out, ← Hl1.out]
          exact H7.out
  · rw [hh] at C3
    have HH := Lib.hid hh
    clear hh hos hs0 hs1 hs hcl hlen hlen0 hc hsr hsh hshl hbl hs0r hno
    go_enter Tryz.func87, Tryz.ntmps87
    go_wp2_with (first
      | (go_at_call 82; (with_reducible refine C1.out.mono ?_); rintro e w1 ⟨rfl, h1⟩; obtain rfl := h1.symm; clear h1)
      | (go_at_call 154; (with_reducible refine C2.out.mono ?_); rintro e w1 ⟨rfl, h1⟩; obtain rfl := h1.symm; clear h1))
    refine C3.out.mono ?_
    rintro e w1 ⟨rfl, m1, hw1⟩
    have b1 : Below w.heap.size w w1 := by rw [hw1]; exact below_drewN (Below.refl _ w) m1
    have B1 := Lib.hid b1
    have CM1 := Lib.hid (CM.out w1 (HR.out.step b1) HH.out)
    clear hw1 b1 CM C1 C2 C3 rc
    go_wp2_with fail
    refine CM1.out.mono ?_
    rintro e w2 ⟨rfl, hR2, hF2⟩
    have F2 : Hid (Fr (fun k => k = r) w w2) := Lib.hid ((Fr.of_below B1.out).trans hF2)
    have HR2 := Lib.hid hR2
    have HA2 := Lib.hid (HA.out.keep (HR.out.kept F2.out))
    clear hR2 hF2 CM1
    go_wp2_with fail
    refine (CF.out w2 HR2.out).mono ?_
    rintro e w3 ⟨rfl, m3, hw3⟩
    have b3 : Below w2.heap.size w2 w3 := by rw [hw3]; exact below_drewN (Below.refl _ w2) m3
    have F3 : Hid (Fr (fun k => k = r) w w3) := Lib.hid (F2.out.trans (Fr.of_below b3))
    have HR3 := Lib.hid (HR2.out.step b3)
    have HA3 := Lib.hid (HA2.out.step b3)
    clear hw3 b3 CF
    go_wp2_with fail
    refine (CN.out w3).mono ?_
    rintro e w4 ⟨rfl, h4⟩
    obtain rfl := h4.symm
    clear h4 CN
    rcases hways with d1 | d1
    · have HD := Lib.hid (of_decide_eq_true d1)
      go_wp2
      go_ret
      exact .inl ⟨rfl, by have h1 := HD.out; have h2 := Hfr.out; have h3 := Hnd.out; rw [← Hl0.out]; omega, by rw [← Hl0.out]; exact HR3.out, F3.out⟩
    · have HD := Lib.hid (of_decide_eq_false d1)
      go_wp2
      go_loopw [9] (fun v wr => ∃ (j a : Nat) (hd : Hd), a = min (64 * j) k ∧ 64 * j < k + 64 ∧ v = .int .i64 a ∧ Hid (RdAt wr r cap (curR l0 sh bs j hd)) ∧ Hid (Fr (fun k => k = r) w wr)) (fun v _ => k - (intOf v).toNat)
      case atStart => exact ⟨0, 0, ⟨none, 0, 0⟩, by simp, by omega, rfl, Lib.hid HR3.out, Lib.hid F3.out⟩
      case round =>
        obtain ⟨j, a, hd, ha, hj, rfl, hRj, hFj⟩ := hrel
        have hcst : costs (curR l0 sh bs j hd) = costs l0 + (if j = 0 then 0 else 16 + sh.length + a) := by rw [curR_costs Hs0r.out Hno.out, Hbl.out, ← ha]
        have hfits : ((16 + sh.length + k : Nat) : Int) ≤ cap - costs l0 := by have h1 := HD.out; have h2 := Hfr.out; have h3 := Hnd.out; have h4 := HShl.out; omega
        have hcc : (costs (curR l0 sh bs j hd) : Int) ≤ cap := by rw [hcst]; split <;> omega
        have hHA := Lib.hid (HA.out.keep (HR.out.kept hFj.out))
        have Ha := Lib.hid ha
        by_cases hlt : a < k
        · have ha2 : a = 64 * j := by omega
          obtain ⟨m, hm⟩ : ∃ m, m = min (k - a) 64 := ⟨_, rfl⟩
          have hmk : a + m ≤ k := by omega
          have hneed : ((m + (if rfHas (curR l0 sh bs j hd) sh then 0 else 16 + sh.length) : Nat) : Int) ≤ cap - costs (curR l0 sh bs j hd) := by
            rw [hcst, curR_has Hno.out]
            by_cases h0 : j = 0
            · subst h0; simp; omega
            · rw [if_neg h0, decide_eq_true (by omega), if_pos rfl]; omega
          have CAj := Lib.hid (rdappend_ok _ r cap (curR l0 sh bs j hd) sh (some ⟨g, off + a, none⟩) m (c - a) ((bs.drop a).take m) hRj.out hcc hcap Hsn.out (hHA.out.mid hmk) (by omega) hneed)
          have HQ : Hid (∀ hd' : Hd, rdPut (curR l0 sh bs j hd) sh hd' (oldR (curR l0 sh bs j hd) sh ++ (bs.drop a).take m) = curR l0 sh bs (j + 1) hd') := Lib.hid (fun hd' => by
            rw [curR_put, curR_old Hno.out, ha2, hm, ha2, cur_step k Hbl.out]
            unfold curR
            rw [if_neg (by omega)])
          have kc := fun V : World => run_cut_lh (P := Tryz.prog) V Tryz.underlying27 Tryz.sizeU8 (some ⟨g, off, none⟩) k c .i64 .i64 a (a + m) (by omega) (by omega)
          rw [cutA_at _ _ _ _ (by omega)] at kc
          have d2 : decide ((a : Int) < (k : Int)) = true := decide_eq_true (by omega)
          have k1 : IntKind.i64.wrap ((k : Int) - (a : Int)) = ((k - a : Nat) : Int) := by rw [IntWalk.i64_in _ (by omega)]; omega
          have k2 : IntKind.i64.wrap ((a : Int) + (m : Int)) = ((a + m : Nat) : Int) := by rw [IntWalk.i64_in _ (by omega)]; omega
          have hmi : min (64 : Int) ((k - a : Nat) : Int) = (m : Int) := by omega
          have Hj1 : Hid (a + m = min (64 * (j + 1)) k ∧ 64 * (j + 1) < k + 64 ∧ 0 < m) := Lib.hid (by omega)
          clear hcst hfits hcc ha hm hmk hneed ha2
          go_wp2_with fail
          refine CAj.out.mono ?_
          rintro e w5 ⟨rfl, ⟨hd', h5⟩, f5⟩
          have H5 : Hid (RdAt w5 r cap (curR l0 sh bs (j + 1) hd')) := Lib.hid (by rw [← HQ.out hd']; exact h5)
          have F5 := Lib.hid (hFj.out.trans f5)
          clear h5 f5 CAj HQ kc
          go_wp2
          go_roundw
          case rel => exact ⟨j + 1, a + m, hd', Hj1.out.1, Hj1.out.2.1, by go_num, H5, F5⟩
          case measure => have h9 := Hj1.out; simp [intOf]; omega
        · have hj0 : 0 < j := by omega
          have hfull : curR l0 sh bs j hd = rdPut l0 sh hd bs := by
            unfold curR
            rw [if_neg (by omega), List.take_of_length_le (by have := Hbl.out; omega)]
          rw [hfull] at hcc
          have HRj : Hid (RdAt wr r cap (rdPut l0 sh hd bs)) := Lib.hid (by have h9 := hRj.out; rwa [hfull] at h9)
          obtain ⟨hhas, hold⟩ := has_put l0 sh hd bs
          have hlen9 := len_costs (rdPut l0 sh hd bs)
          have hs9 := srt_put (s := sh) Hs0r.out hd bs
          have hle9 : s.length ≤ sh.length := by have := HShl.out; omega
          obtain ⟨l1, hl1⟩ : ∃ l1, l1 = rdPut l0 sh hd bs := ⟨_, rfl⟩
          rw [← hl1] at HRj hhas hold hlen9 hs9 hcc
          have CHj := Lib.hid (rdhas_any wr r cap l1 sh HRj.out (by omega))
          rw [hhas] at CHj
          have CS := Lib.hid (fun V hV => rdsync_ok V r cap l1 sh hV (by omega) Hsn.out hhas)
          have CR := Lib.hid (fun V hV => rdrename_ok V r cap l1 sh s hV hs9 hcc hcap Hsn.out Hon.out hhas hle9)
          rw [hold] at CR
          have Hl1 := Lib.hid hl1
          have d2 : decide ((a : Int) < (k : Int)) = false := decide_eq_false (by omega)
          have HF : Hid (((16 + (s.length + 1) + k : Nat) : Int) ≤ cap - costs l0) := Lib.hid (by have h1 := HShl.out; omega)
          clear hj0 hfull hcc hhas hold hlen9 hs9 hle9 hl1 hcst hfits ha
          go_wp2_with fail
          refine CHj.out.mono ?_
          rintro e w5 ⟨rfl, m5, hw5⟩
          have b5 : Below wr.heap.size wr w5 := by rw [hw5]; exact below_drewN (Below.refl _ wr) m5
          have F5 := Lib.hid (hFj.out.trans (Fr.of_below b5))
          have CS5 := Lib.hid (CS.out w5 (HRj.out.step b5))
          clear hw5 b5 CHj CS
          go_wp2_with fail
          refine CS5.out.mono ?_
          rintro e w6 ⟨rfl, h6, f6⟩
          have F6 := Lib.hid (F5.out.trans f6)
          have CR6 := Lib.hid (CR.out w6 h6)
          clear h6 f6 CS5 CR
          go_wp2_with fail
          refine CR6.out.mono ?_
          rintro e w7 ⟨rfl, ⟨hd', h7⟩, f7⟩
          have F7 := Lib.hid (F6.out.trans f7)
          have H7 := Lib.hid h7
          clear h7 f7 CR6
          go_wp2
          go_ret
          refine .inr ⟨rfl, by rw [← Hl0.out]; exact HF.out, ⟨hd, hd', ?_⟩, F7.out⟩
          unfold saveR
          rw [← Hshe.out, ← Hl0.out, ← Hl1.out]
          exact H7.out
end Go.Proofs.YtphnfcgdpdimbaaGreatDoor

/-
  work.Put: its answer, and the files behind it, as functions of the room and the files. Conditions: the disk lies in memory, is on, has no cut ahead, holds no more than its room; the content can be read; MaxLen holds an int.
-/
namespace Go.Proofs.YtphnfcgdpdimbaaGreatDoor
open Go.RowKit

/-- is there too little room? -/
def putFull (cap : Int) (L : List DF) (s bs : List UInt8) (st : Int) : Bool := decide (cap - costs (dropF L (shName (wname s))) < 16 + ((wname s).length + 1) + (wbytes st.toNat bs).length)
/-- what Put answers -/
def putAns (cap : Int) (L : List DF) (s bs : List UInt8) (st : Int) : Int := if putBad s st bs.length = true then 1 else if putFull cap L s bs st = true then 4 else 0
/-- the files behind Put -/
def putL (cap : Int) (L : List DF) (s bs : List UInt8) (st : Int) (hd : Hd) : List DF := if putBad s st bs.length = true then L else if putFull cap L s bs st = true then dropF L (shName (wname s)) else putF (dropF L (shName (wname s))) (wname s) hd (wbytes st.toNat bs)
theorem not_bad {s : List UInt8} {st : Int} {n : Nat} (h : putBad s st n = false) : 0 ≤ st := by
  unfold putBad at h
  simp only [Bool.or_eq_false_iff] at h
  have := of_decide_eq_false h.2.1
  omega
theorem Tied.ans {l L : List DF} (h : Tied l L) (cap : Int) (s bs : List UInt8) (st : Int) : putFull cap l s bs st = putFull cap L s bs st ∧ putAns cap l s bs st = putAns cap L s bs st := by
  have h1 : putFull cap l s bs st = putFull cap L s bs st := by unfold putFull; rw [(h.drop _).costs]
  refine ⟨h1, ?_⟩
  unfold putAns
  rw [h1]
theorem putL_costs {cap : Int} {L : List DF} (hn : (L.map (·.1)).Nodup) (hc : (costs L : Int) ≤ cap) (s bs : List UInt8) (st : Int) (hd : Hd) : (costs (putL cap L s bs st hd) : Int) ≤ cap := by
  have h1 := costs_drop_le L (shName (wname s)) hn
  unfold putL
  split
  · exact hc
  · split
    · omega
    · rename_i hf
      unfold putFull at hf
      have h2 := of_decide_eq_false (Bool.eq_false_iff.2 hf)
      have h3 := costs_drop_le (dropF L (shName (wname s))) (wname s) (drop_nodup _ hn)
      unfold putF
      show ((cost1 _ + costs _ : Nat) : Int) ≤ cap
      unfold cost1
      simp only
      omega
set_option maxRecDepth 100000 in
theorem wput_all (w : World) (p m n : Nat) (cap : Int) (L : List DF) (s : List UInt8) (A : Option Addr) (k c : Nat) (bs : List UInt8) (st : Int) (h : DiskAt w p m n cap L) (hs : s.length ≤ 2147483648) (hM : MaxL w) (hA : Sl w 1 A k (u8s bs)) (hk : k ≤ maxLen)
    (hcap : cap ≤ 4000000000000) (hc : (costs L : Int) ≤ cap) (hn : n + 100000 < maxLen) :
    Calls Tryz.prog 8 #[.pointer (some ⟨p, 0, none⟩), S s, .slice A k c, I st] w fun e w' => e = .returned (I (putAns cap L s bs st)) ∧ (∃ hd n', n' ≤ n + 100000 ∧ DiskAt w' p m n' cap (putL cap L s bs st hd)) ∧ Fr (fun k => k = p ∨ k = m) w w' := by
  have hbl : bs.length = k := u8s_len hA
  cases hb : putBad s st bs.length with
  | true =>
    have hb2 := hb
    rw [hbl] at hb2
    refine (wput_bad w p m n cap L s A k c st h hs hM hk hb2).mono ?_
    rintro e w' ⟨rfl, b1⟩
    refine ⟨by unfold putAns; rw [if_pos hb], ⟨⟨none, 0, 0⟩, n, by omega, ?_⟩, Fr.of_below b1⟩
    unfold putL
    rw [if_pos hb]
    exact h.step b1
  | false =>
    have h0 := not_bad hb
    obtain ⟨t, rfl⟩ : ∃ t : Nat, st = t := ⟨st.toNat, by omega⟩
    have hb2 := hb
    rw [hbl] at hb2
    refine (wput_good w p m n cap L s A k c bs t h hM hA hb2 hcap hc hn).mono ?_
    have hnb : ¬ putBad s (t : Int) bs.length = true := by rw [hb]; simp
    rintro e w' (⟨rfl, z1, z2, z3⟩ | ⟨rfl, z1, hd, n', z2, z3, z4⟩)
    · have hf : putFull cap L s bs t = true := decide_eq_true (by simpa using z1)
      refine ⟨by unfold putAns; rw [if_neg hnb, if_pos hf], ⟨⟨none, 0, 0⟩, n, by omega, ?_⟩, z3⟩
      unfold putL
      rw [if_neg hnb, if_pos hf]
      exact z2
    · have hf : ¬ putFull cap L s bs t = true := fun h => by
        have h1 := of_decide_eq_true h
        rw [show ((t : Int).toNat) = t from rfl] at h1
        omega
      refine ⟨by unfold putAns; rw [if_neg hnb, if_neg hf], ⟨hd, n', z2, ?_⟩, z4⟩
      unfold putL
      rw [if_neg hnb, if_neg hf]
      exact z3
end Go.Proofs.YtphnfcgdpdimbaaGreatDoor

/-
  dolmenref06.Part, dolmenref13.Parts, Named, Under: they say what PathLaw says. Conditions: a path is shorter than 2147483648 bytes.
-/
namespace Go.Proofs.YtphnfcgdpdimbaaGreatDoor
open Go.RowKit
open PathLaw (pc under)

theorem byte_none {s : List UInt8} {c : UInt8} : Lib.indexByte s c < 0 ↔ ∀ k : Nat, s[k]? ≠ some c := by
  have hge := Lib.indexByte_ge s c
  constructor
  · intro h
    exact Lib.indexByte_none (by omega)
  · intro h
    rcases Int.lt_or_le (Lib.indexByte s c) 0 with h0 | h0
    · exact h0
    · obtain ⟨o, ho⟩ := Int.eq_ofNat_of_zero_le h0
      exact absurd (Lib.indexByte_some ho).1 (h o)
theorem part_not {s : List UInt8} {k : Nat} {x : UInt8} (hx : s[k]? = some x) (h : x = 0 ∨ x = 47) : PathLaw.part s = false := by
  unfold PathLaw.part
  rcases h with rfl | rfl
  · have := mt byte_none.1 (fun h => h k hx)
    simp [this]
  · have := mt byte_none.1 (fun h => h k hx)
    simp [this]
theorem part_all {s : List UInt8} (h : ∀ (j : Nat) x, j < s.length → s[j]? = some x → x ≠ 0 ∧ x ≠ 47) : PathLaw.part s = (decide (1 ≤ s.length) && (decide (s.length ≤ 100) && (!decide (s = [46]) && !decide (s = [46, 46])))) := by
  have h1 : Lib.indexByte s 47 < 0 := byte_none.2 (fun k hk => (h k _ (List.getElem?_eq_some_iff.1 hk).1 hk).2 rfl)
  have h2 : Lib.indexByte s 0 < 0 := byte_none.2 (fun k hk => (h k _ (List.getElem?_eq_some_iff.1 hk).1 hk).1 rfl)
  unfold PathLaw.part
  simp [h1, h2]

set_option maxHeartbeats 1000000 in
set_option maxRecDepth 100000 in
theorem rpart_any (s : List UInt8) (w : World) (hs : s.length ≤ 2147483648) :
    Calls Tryz.prog 226 #[S s] w fun e w' => e = .returned (.bool (PathLaw.part s)) ∧ w = w' := by
  go_enter Tryz.func226, Tryz.ntmps226
  go_wp2
  go_loop [3] (fun i => ∃ k : Nat, i = .int .i64 k ∧ k ≤ s.length ∧ Hid (∀ (j : Nat) x, j < k → s[j]? = some x → x ≠ 0 ∧ x ≠ 47)) (fun i => s.length - (intOf i).toNat)
  case atStart => exact ⟨0, rfl, Nat.zero_le _, Lib.hid (fun j x h => absurd h (Nat.not_lt_zero j))⟩
  case round =>
    obtain ⟨k, rfl, hk, ha⟩ := hrel
    by_cases hlt : k < s.length
    · have Hx : Hid (s[k]? = some s[k]) := Lib.hid (List.getElem?_eq_getElem hlt)
      obtain ⟨n, hn⟩ : ∃ n : Nat, n = s[k].toNat := ⟨_, rfl⟩
      have hb : ((⟨s.toArray⟩ : ByteArray)[k]'(by rw [size_mk]; exact hlt)).toNat = n := hn.symm
      have Hn := Lib.hid hn
      clear hn
      by_cases h0 : n = 0
      · subst h0
        go_wp2
        go_ret
        exact ⟨ret_bool (part_not Hx.out (.inl (UInt8.toNat_inj.1 Hn.out.symm))).symm, rfl⟩
      · by_cases h1 : n = 47
        · subst h1
          go_wp2
          go_ret
          exact ⟨ret_bool (part_not Hx.out (.inr (UInt8.toNat_inj.1 Hn.out.symm))).symm, rfl⟩
        · have n0 : s[k] ≠ 0 := fun e => h0 (by rw [Hn.out, e]; rfl)
          have n1 : s[k] ≠ 47 := fun e => h1 (by rw [Hn.out, e]; rfl)
          have Ha : Hid (∀ (j : Nat) x, j < k + 1 → s[j]? = some x → x ≠ 0 ∧ x ≠ 47) := Lib.hid (fun j x hj hx => by
            rcases Nat.lt_or_ge j k with h1 | h1
            · exact ha.out j x h1 hx
            · obtain rfl : j = k := by omega
              rw [Hx.out] at hx
              cases hx
              exact ⟨n0, n1⟩)
          have b0 : ((n : Int) == 0) = false := by simp only [beq_eq_false_iff_ne, ne_eq]; exact fun e => h0 (Int.ofNat.inj e)
          have b1 : ((n : Int) == 47) = false := by simp only [beq_eq_false_iff_ne, ne_eq]; exact fun e => h1 (Int.ofNat.inj e)
          clear n0 n1
          go_wp2
          go_round
          case rel => exact ⟨k + 1, by go_num, hlt, Ha⟩
          case measure => simp [intOf]; omega
    · obtain rfl : k = s.length := by omega
      have hp := Lib.hid (part_all ha.out)
      clear ha
      go_wp2
      all_goals
        go_ret
        refine ⟨ret_bool ?_, rfl⟩
        have hq := hp.out
        clear hp
        grind

theorem strs_snoc9 (l : List (List UInt8)) (u : List UInt8) : strs (l ++ [u]) = strs l ++ [S u] := by simp [strs]
/-- a part begun, ahead of the rest's parts -/
def glue (u : List UInt8) : List (List UInt8) → List (List UInt8)
  | [] => [u]
  | y :: r => (u ++ y) :: r
theorem pc_slash {s : List UInt8} {k : Nat} (h : s[k]? = some 47) : pc (s.drop k) = [] :: pc (s.drop (k + 1)) := by
  obtain ⟨hk, hx⟩ := List.getElem?_eq_some_iff.1 h
  rw [List.drop_eq_getElem_cons hk, hx]
  conv => lhs; unfold pc
  simp
theorem pc_other {s : List UInt8} {k : Nat} {x : UInt8} (h : s[k]? = some x) (hx : x ≠ 47) (u : List UInt8) : glue u (pc (s.drop k)) = glue (u ++ [x]) (pc (s.drop (k + 1))) := by
  obtain ⟨hk, hx'⟩ := List.getElem?_eq_some_iff.1 h
  rw [List.drop_eq_getElem_cons hk, hx']
  conv => lhs; unfold pc
  rw [if_neg hx]
  have hn := PathLaw.pc_ne (s.drop (k + 1))
  split
  · rename_i e; exact absurd e hn
  · rename_i y r e; simp [glue, e]
/-- how far the parts have come at byte k, the last begun at f -/
def Upto (s : List UInt8) (o : List (List UInt8)) (k f : Nat) : Prop := (k = s.length + 1 ∧ o = pc s) ∨ (k ≤ s.length ∧ f ≤ k ∧ pc s = o ++ glue ((s.drop f).take (k - f)) (pc (s.drop k)))
theorem Upto.start (s : List UInt8) : Upto s [] 0 0 := .inr ⟨Nat.zero_le _, Nat.le_refl _, by
  have hn := PathLaw.pc_ne s
  simp only [List.nil_append, List.drop_zero, Nat.sub_self, List.take_zero]
  cases h : pc s with
  | nil => exact absurd h hn
  | cons y r => rfl⟩
theorem Upto.le {s : List UInt8} {o : List (List UInt8)} {k f : Nat} (h : Upto s o k f) (hk : k ≤ s.length) : f ≤ k := by
  rcases h with ⟨h, _⟩ | ⟨_, h, _⟩
  · omega
  · exact h
theorem Upto.slash {s : List UInt8} {o : List (List UInt8)} {k f : Nat} (h : Upto s o k f) (hx : s[k]? = some 47) : Upto s (o ++ [(s.drop f).take (k - f)]) (k + 1) (k + 1) := by
  have hk := (List.getElem?_eq_some_iff.1 hx).1
  rcases h with ⟨h, _⟩ | ⟨_, hf, h⟩
  · omega
  · refine .inr ⟨hk, Nat.le_refl _, ?_⟩
    rw [h, pc_slash hx]
    have hn := PathLaw.pc_ne (s.drop (k + 1))
    cases e : pc (s.drop (k + 1)) with
    | nil => exact absurd e hn
    | cons y r => simp [glue]
theorem Upto.end_ {s : List UInt8} {o : List (List UInt8)} {f : Nat} (h : Upto s o s.length f) : Upto s (o ++ [(s.drop f).take (s.length - f)]) (s.length + 1) (s.length + 1) := by
  rcases h with ⟨h, _⟩ | ⟨_, hf, h⟩
  · omega
  · refine .inl ⟨rfl, ?_⟩
    rw [h]
    simp [glue, pc]
theorem Upto.other {s : List UInt8} {o : List (List UInt8)} {k f : Nat} {x : UInt8} (h : Upto s o k f) (hx : s[k]? = some x) (hn : x ≠ 47) : Upto s o (k + 1) f := by
  have hk := (List.getElem?_eq_some_iff.1 hx).1
  rcases h with ⟨h, _⟩ | ⟨_, hf, h⟩
  · omega
  · refine .inr ⟨hk, by omega, ?_⟩
    rw [h, pc_other hx hn]
    congr 2
    rw [show k + 1 - f = (k - f) + 1 by omega, List.take_add_one, List.getElem?_drop, show f + (k - f) = k by omega, hx]
    rfl
theorem Upto.full {s : List UInt8} {o : List (List UInt8)} {f : Nat} (h : Upto s o (s.length + 1) f) : o = pc s := by
  rcases h with ⟨_, h⟩ | ⟨h, _⟩
  · exact h
  · omega

set_option maxHeartbeats 2000000 in
set_option maxRecDepth 100000 in
theorem parts_any (s : List UInt8) (w : World) (hs : s.length ≤ 2147483648) :
    Calls Tryz.prog 225 #[S s] w fun e w' => ∃ (A : Option Addr) (n c : Nat), e = .returned (.slice A n c) ∧ Ow w w' 9 1 A n c (strs (pc s)) := by
  obtain ⟨i0, hi0, hi1, hi2, hi3⟩ := info_parts Tryz.infoStr
  go_enter Tryz.func225, Tryz.ntmps225
  go_wp2
  go_loopw [3, 4, 5] (fun o fr i wr => ∃ (k f co t : Nat) (Ao : Option Addr) (l : List (List UInt8)), i = .int .i64 k ∧ fr = .int .i64 f ∧ o = .slice Ao t co ∧ Hid (k ≤ s.length + 1) ∧ Hid (t ≤ k) ∧ Hid (Upto s l k f) ∧ Hid (Ow w wr 9 1 Ao t co (strs l))) (fun _ _ i _ => s.length + 1 - (intOf i).toNat)
  case atStart => exact ⟨0, 0, 0, 0, none, [], rfl, rfl, rfl, Lib.hid (Nat.zero_le _), Lib.hid (Nat.le_refl _), Lib.hid (Upto.start s), Lib.hid (Ow.nil_ (Below.refl _ _))⟩
  case round =>
    obtain ⟨k, f, co, t, Ao, l, rfl, rfl, rfl, hk, ht, hU, hO⟩ := hrel
    by_cases hle : k ≤ s.length
    · have hfk := hU.out.le hle
      have q0 : t ≤ 2147483648 := by have := ht.out; omega
      have q1 : t + 1 ≤ maxLen := by simp only [maxLen]; omega
      have q2 : (t + 1) * 16 ≤ 140737488355328 := by omega
      have HS6 := Lib.hid (sl_one wr 9 (S ((s.drop f).take (k - f))))
      have HO6 := Lib.hid (hO.out.alloc (.cells #[S ((s.drop f).take (k - f))] 9))
      by_cases hlt : k < s.length
      · have Hx : Hid (s[k]? = some s[k]) := Lib.hid (List.getElem?_eq_getElem hlt)
        by_cases h47 : s[k] = 47
        · have hb : ((⟨s.toArray⟩ : ByteArray)[k]'(by rw [size_mk]; exact hlt)).toNat = 47 := by show s[k].toNat = 47; rw [h47]; rfl
          have hne : ((k : Int) == (s.length : Int)) = false := by simp; omega
          have he : (⟨s.toArray⟩ : ByteArray).extract f k = ⟨((s.drop f).take (k - f)).toArray⟩ := extract_mk s f k
          go_wp2_with (at_builtin; refine wpList_append_sl _ rfl (.tmp 22) (.tmp 27) _ rfl w 9 i0 _ 1 16 Tryz.underlying52 hi0 hi1 hi2 hi3 rfl (by decide) Ao t co _ rfl HO6.out _ 1 1 [S ((s.drop f).take (k - f))] rfl HS6.out (one_one rfl) q1 q2 ?_; intro A5 c5 w5 hO5 hg5 hat5; have HO5 := Lib.hid hO5; clear hO5 hg5 hat5)
          go_roundw
          case rel => exact ⟨k + 1, k + 1, c5, t + 1, A5, l ++ [(s.drop f).take (k - f)], by go_num, by go_num, rfl, Lib.hid (by omega), Lib.hid (by have := ht.out; omega), Lib.hid (hU.out.slash (by rw [Hx.out, h47])), Lib.hid (by rw [strs_snoc9]; exact HO5.out)⟩
          case measure => simp [intOf]; omega
        · have hb : ((((⟨s.toArray⟩ : ByteArray)[k]'(by rw [size_mk]; exact hlt)).toNat : Int) == 47) = false := by
            simp only [beq_eq_false_iff_ne, ne_eq]
            exact fun e => h47 (UInt8.toNat_inj.1 (Int.ofNat.inj e))
          have hne : ((k : Int) == (s.length : Int)) = false := by simp; omega
          go_wp2
          go_roundw
          case rel => exact ⟨k + 1, f, co, t, Ao, l, by go_num, rfl, rfl, Lib.hid (by omega), Lib.hid (by have := ht.out; omega), Lib.hid (hU.out.other Hx.out h47), hO⟩
          case measure => simp [intOf]; omega
      · obtain rfl : k = s.length := by omega
        have he : (⟨s.toArray⟩ : ByteArray).extract f s.length = ⟨((s.drop f).take (s.length - f)).toArray⟩ := extract_mk s f s.length
        go_wp2_with (at_builtin; refine wpList_append_sl _ rfl (.tmp 22) (.tmp 27) _ rfl w 9 i0 _ 1 16 Tryz.underlying52 hi0 hi1 hi2 hi3 rfl (by decide) Ao t co _ rfl HO6.out _ 1 1 [S ((s.drop f).take (s.length - f))] rfl HS6.out (one_one rfl) q1 q2 ?_; intro A5 c5 w5 hO5 hg5 hat5; have HO5 := Lib.hid hO5; clear hO5 hg5 hat5)
        go_roundw
        case rel => exact ⟨s.length + 1, s.length + 1, c5, t + 1, A5, l ++ [(s.drop f).take (s.length - f)], by go_num, by go_num, rfl, Lib.hid (by omega), Lib.hid (by have := ht.out; omega), Lib.hid hU.out.end_, Lib.hid (by rw [strs_snoc9]; exact HO5.out)⟩
        case measure => simp [intOf]
    · obtain rfl : k = s.length + 1 := by have := hk.out; omega
      have hf := hU.out.full
      subst hf
      go_wp2
      go_ret
      exact ⟨Ao, t, co, rfl, hO.out⟩
theorem pc_part_len : ∀ (s y : List UInt8), y ∈ pc s → y.length ≤ s.length
  | [], y, h => by simp [pc] at h; simp [h]
  | x :: b, y, h => by
    unfold pc at h
    split at h
    · rcases List.mem_cons.1 h with rfl | h
      · simp
      · have := pc_part_len b y h
        simp; omega
    · split at h
      · simp at h; subst h; simp
      · rename_i z r e
        rcases List.mem_cons.1 h with rfl | h
        · have := pc_part_len b z (by rw [e]; simp)
          simpa using this
        · have := pc_part_len b y (by rw [e]; simp [h])
          simp; omega

set_option maxHeartbeats 1000000 in
set_option maxRecDepth 100000 in
theorem rnamed_any (s : List UInt8) (w : World) (hs : s.length ≤ 2147483648) :
    Calls Tryz.prog 153 #[S s] w fun e w' => e = .returned (.bool (PathLaw.named s)) ∧ Below w.heap.size w w' := by
  have C1 := Lib.hid (parts_any s w hs)
  have hl := PathLaw.pc_len s
  have HL := Lib.hid (pc_part_len s)
  obtain ⟨P, hP⟩ : ∃ P, P = pc s := ⟨_, rfl⟩
  have HP := Lib.hid hP
  rw [← hP] at C1 hl HL
  clear hP
  go_enter Tryz.func153, Tryz.ntmps153
  go_wp2_with (go_at_call 225; refine C1.out.mono ?_; rintro e w1 ⟨A, n, c, rfl, hO⟩; have HO := Lib.hid hO; clear hO)
  have hn : P.length = n := by simpa using HO.out.sl.len
  subst hn
  go_loopw [4] (fun i wr => ∃ k : Nat, i = .int .i64 k ∧ k ≤ P.length ∧ Hid ((P.take k).all PathLaw.part = true) ∧ w1 = wr) (fun i _ => P.length - (intOf i).toNat)
  case atStart => exact ⟨0, rfl, Nat.zero_le _, Lib.hid rfl, rfl⟩
  case round =>
    obtain ⟨k, rfl, hk, ha, rfl⟩ := hrel
    by_cases hlt : k < P.length
    · obtain ⟨b, off, x, e1, hx, hc⟩ := HO.out.sl.str hlt
      subst e1
      have hxl : x.length ≤ 2147483648 := Nat.le_trans (HL.out x (List.mem_of_getElem? hx)) hs
      have Hx := Lib.hid hx
      clear hx
      cases hp : PathLaw.part x with
      | true =>
        have C2 := rpart_any x
        rw [hp] at C2
        have C3 := Lib.hid C2
        have Hp := Lib.hid hp
        clear C2 hp
        go_wp2_with (go_at_call 226; refine (C3.out _ hxl).mono ?_; rintro e w' ⟨rfl, rfl⟩)
        go_roundw
        case rel => exact ⟨k + 1, by go_num, hlt, Lib.hid (all_take_succ ha.out Hx.out Hp.out), trivial⟩
        case measure => simp [intOf]; omega
      | false =>
        have C2 := rpart_any x
        rw [hp] at C2
        have C3 := Lib.hid C2
        have Hp := Lib.hid hp
        clear C2 hp
        go_wp2_with (go_at_call 226; refine (C3.out _ hxl).mono ?_; rintro e w' ⟨rfl, rfl⟩)
        go_ret
        refine ⟨ret_bool ?_, HO.out.2⟩
        unfold PathLaw.named
        rw [← HP.out, all_not Hx.out Hp.out]
        rfl
    · obtain rfl : k = P.length := by omega
      have ha2 : Hid (P.all PathLaw.part = true) := by
        have := ha.out
        rwa [List.take_length] at this
      clear hlt
      go_wp2
      all_goals
        go_ret
        refine ⟨ret_bool ?_, HO.out.2⟩
        unfold PathLaw.named
        rw [← HP.out, ha2.out]
        clear C1 HP HL HO ha2 ha
        grind

theorem under_eq (p d : List UInt8) : under p d = (decide (d.length < p.length) && (decide (p.take d.length = d) && decide (p[d.length]? = some 47))) := by
  rw [Bool.eq_iff_iff, PathLaw.under_iff]
  simp only [Bool.and_eq_true, decide_eq_true_eq]
  constructor
  · rintro ⟨r, rfl⟩
    simp
  · rintro ⟨h1, h2, h3⟩
    refine ⟨p.drop (d.length + 1), ?_⟩
    obtain ⟨h4, h5⟩ := List.getElem?_eq_some_iff.1 h3
    conv => lhs; rw [← List.take_append_drop d.length p, h2, List.drop_eq_getElem_cons h4, h5]
set_option maxHeartbeats 1000000 in
set_option maxRecDepth 100000 in
theorem runder_any (p d : List UInt8) (w : World) (hp : p.length ≤ maxLen) :
    Calls Tryz.prog 160 #[S p, S d] w fun e w' => e = .returned (.bool (under p d)) ∧ w = w' := by
  have hpl : p.length ≤ 9223372036854775807 := Nat.le_trans hp (by decide)
  have HU := Lib.hid (under_eq p d)
  clear hp
  by_cases h1 : d.length < p.length
  · have he : (⟨p.toArray⟩ : ByteArray).extract 0 d.length = ⟨(p.take d.length).toArray⟩ := by simpa using extract_mk p 0 d.length
    have Hx : Hid (p[d.length]? = some p[d.length]) := Lib.hid (List.getElem?_eq_getElem h1)
    obtain ⟨n, hn⟩ : ∃ n : Nat, n = p[d.length].toNat := ⟨_, rfl⟩
    have hb : ((⟨p.toArray⟩ : ByteArray)[d.length]'(by rw [size_mk]; exact h1)).toNat = n := hn.symm
    have E3 : Hid (decide (p[d.length]? = some 47) = ((n : Int) == 47)) := Lib.hid (by
      rw [Hx.out, hn, Bool.eq_iff_iff]
      simp only [decide_eq_true_eq, Option.some.injEq, beq_iff_eq]
      exact ⟨fun e => by rw [e]; rfl, fun e => UInt8.toNat_inj.1 (Int.ofNat.inj e)⟩)
    clear hn Hx
    go_enter Tryz.func160, Tryz.ntmps160
    go_wp2
    all_goals
      go_ret
      refine ⟨ret_bool ?_, rfl⟩
      rw [HU.out, E3.out]
      clear HU E3
      grind
  · go_enter Tryz.func160, Tryz.ntmps160
    go_wp2
    go_ret
    refine ⟨ret_bool ?_, rfl⟩
    rw [HU.out]
    simp [h1]
end Go.Proofs.YtphnfcgdpdimbaaGreatDoor

/-
  dolmenref20: Worked, Name, Put. Conditions: the disk lies in memory, in order, holds no more than its room; the content can be read; no path is longer than 1048576 bytes.
-/
namespace Go.Proofs.YtphnfcgdpdimbaaGreatDoor
open Go.RowKit
open PathLaw (named)

theorem suffix_snoc (t : List UInt8) (x c : UInt8) : Lib.hasSuffix (t ++ [x]) [c] = decide (x = c) := by
  unfold Lib.hasSuffix
  by_cases h : x = c
  · subst h
    rw [decide_eq_true rfl, List.isSuffixOf_iff_suffix]
    exact ⟨t, rfl⟩
  · rw [decide_eq_false h, Bool.eq_false_iff]
    intro hs
    rw [List.isSuffixOf_iff_suffix] at hs
    obtain ⟨u, hu⟩ := hs
    exact h (by have := (List.append_inj' hu rfl).2; injection this with e; exact e.symm)
set_option maxRecDepth 100000 in
theorem rworked_any (s : List UInt8) (w : World) (hl : s.length ≤ 2147483648) :
    Calls Tryz.prog 86 #[S s] w fun e w' => e = .returned (.bool (workedB s)) ∧ Below w.heap.size w w' := by
  have CN := Lib.hid (rnamed_any s w hl)
  cases hn : named s with
  | false =>
    have hw : workedB s = false := by unfold workedB; rw [hn]; rfl
    rw [hn] at CN
    rw [hw]
    clear hn hw
    go_enter Tryz.func86, Tryz.ntmps86
    go_wp2_with fail
    refine CN.out.mono ?_
    rintro e w1 ⟨rfl, b1⟩
    have B1 := Lib.hid b1
    clear b1
    go_wp2
    go_ret
    exact ⟨rfl, B1.out⟩
  | true =>
    rw [hn] at CN
    obtain ⟨_, _, hs0⟩ := named_zero hn
    rcases List.eq_nil_or_concat s with rfl | ⟨t, x, rfl⟩
    · exact absurd rfl hs0
    have e1 : t.concat x = t ++ [x] := by simp
    rw [e1] at hl hn CN ⊢
    have hw : workedB (t ++ [x]) = !decide (x = 126) := by unfold workedB; rw [hn, suffix_snoc]; rfl
    rw [hw]
    have hlen : (t ++ [x]).length = t.length + 1 := by simp
    have hat : (t ++ [x])[t.length]? = some x := by simp
    obtain ⟨s, hs⟩ : ∃ s, s = t ++ [x] := ⟨_, rfl⟩
    obtain ⟨k, hk⟩ : ∃ k, k = t.length := ⟨_, rfl⟩
    rw [← hs] at hl hlen hat CN ⊢
    rw [← hk] at hlen hat
    have hh : k < (⟨s.toArray⟩ : ByteArray).size := by show k < s.toArray.size; simp; omega
    have hv := byte_at hat hh
    have k1 : IntKind.i64.wrap ((s.length : Int) - 1) = (k : Int) := by rw [IntWalk.i64_in _ (by omega)]; omega
    by_cases hx : x = 126
    · have d1 : ((((⟨s.toArray⟩ : ByteArray)[k]'hh).toNat : Int) == 126) = true := by rw [hv, hx]; rfl
      rw [decide_eq_true hx]
      clear hv hat hs hk hx e1 hs0 hw hn
      go_enter Tryz.func86, Tryz.ntmps86
      go_wp2_with fail
      refine CN.out.mono ?_
      rintro e w1 ⟨rfl, b1⟩
      have B1 := Lib.hid b1
      clear b1
      go_wp2
      go_ret
      exact ⟨by show Ending.returned (.bool (!((((⟨s.toArray⟩ : ByteArray)[k]'hh).toNat : Int) == 126))) = _; rw [d1], B1.out⟩
    · have d1 : ((((⟨s.toArray⟩ : ByteArray)[k]'hh).toNat : Int) == 126) = false := by
        rw [hv]
        refine beq_eq_false_iff_ne.2 (fun e => hx ?_)
        exact UInt8.toNat_inj.1 (by have : x.toNat = 126 := by omega
                                    rw [this]; rfl)
      rw [decide_eq_false hx]
      clear hv hat hs hk hx e1 hs0 hw hn
      go_enter Tryz.func86, Tryz.ntmps86
      go_wp2_with fail
      refine CN.out.mono ?_
      rintro e w1 ⟨rfl, b1⟩
      have B1 := Lib.hid b1
      clear b1
      go_wp2
      go_ret
      exact ⟨by show Ending.returned (.bool (!((((⟨s.toArray⟩ : ByteArray)[k]'hh).toNat : Int) == 126))) = _; rw [d1], B1.out⟩
set_option maxRecDepth 100000 in
theorem rname20_any (p : List UInt8) (w : World) (hp : p.length ≤ 2147483648) :
    Calls Tryz.prog 88 #[S p] w fun e w' => e = .returned (S (wname p)) ∧ w' = w := by
  have hcat : (⟨#[119, 47]⟩ : ByteArray) ++ ⟨p.toArray⟩ = ⟨(wname p).toArray⟩ := ba_app [119, 47] p
  go_enter Tryz.func88, Tryz.ntmps88
  go_wp2
  go_ret
  exact ⟨rfl, rfl⟩
theorem saveR_tied {l L : List DF} (h : Tied l L) (s bs : List UInt8) (hd hd' hd2 : Hd) : Tied (saveR l s bs hd hd') (putF (dropF L (shName s)) s hd2 bs) := by
  have h1 := ((((h.drop (shName s)).put (shName s) hd hd2 bs).drop (shName s)).put s hd' hd2 bs)
  rw [drop_put] at h1
  have e : dropF (dropF L (shName s)) (shName s) = dropF L (shName s) := dropF_none (fun hm => by
    obtain ⟨x, hx, e⟩ := List.mem_map.1 hm
    have := (List.mem_filter.1 hx).2
    simp [e] at this)
  rwa [e] at h1
theorem tied_refl {l : List DF} (h : Srt l) : Tied l l := ⟨h, List.Perm.refl _⟩
set_option maxRecDepth 100000 in
set_option maxHeartbeats 4000000 in
theorem rput_all (w : World) (r : Nat) (cap : Int) (l : List DF) (s : List UInt8) (A : Option Addr) (k c : Nat) (bs : List UInt8) (st : Int) (h : RdAt w r cap l) (hsr : Srt l) (hc : (costs l : Int) ≤ cap) (hcap : cap ≤ 2000000) (hs : s.length ≤ 1048576) (hA : Sl w 1 A k (u8s bs)) (hk : k ≤ 2147483648) :
    Calls Tryz.prog 33 #[.pointer (some ⟨r, 0, none⟩), S s, .slice A k c, I st] w fun e w' => e = .returned (I (putAns cap l s bs st)) ∧ (∃ l', RdAt w' r cap l' ∧ ∀ hd2, Tied l' (putL cap l s bs st hd2)) ∧ Fr (fun k => k = r) w w' := by
  obtain ⟨i0, hi0, hz0, hz1, hz2⟩ := info_parts Tryz.infoU8
  have hbl : bs.length = k := u8s_len hA
  have CW := Lib.hid (rworked_any s w (by omega))
  have HR := Lib.hid h
  have HA := Lib.hid hA
  have Hsr := Lib.hid hsr
  cases hb : putBad s st bs.length with
  | true =>
    have ha : putAns cap l s bs st = 1 := by unfold putAns; rw [if_pos hb]
    have hl : ∀ hd2, putL cap l s bs st hd2 = l := by intro hd2; unfold putL; rw [if_pos hb]
    rw [ha]
    simp only [hl]
    have hways : workedB s = false ∨ (workedB s = true ∧ decide (st < 0) = true) ∨ (workedB s = true ∧ decide (st < 0) = false ∧ decide (1099511627776 < st) = true) ∨ (workedB s = true ∧ decide (st < 0) = false ∧ decide (1099511627776 < st) = false ∧ decide (1048576 < (k : Int)) = true) := by
      rw [hbl] at hb
      unfold putBad at hb
      rcases a1 : workedB s with _ | _ <;> rcases a2 : decide (st < 0) with _ | _ <;> rcases a3 : decide (1099511627776 < st) with _ | _ <;> rcases a4 : decide (1048576 < (k : Int)) with _ | _ <;> rw [a1, a2, a3, a4] at hb <;> first | (exact absurd hb (by decide)) | simp
    clear h hsr hc hA hb ha hl hbl
    rcases hways with h1 | ⟨h1, h2⟩ | ⟨h1, h2, h3⟩ | ⟨h1, h2, h3, h4⟩
    all_goals
      rw [h1] at CW
      clear h1
      go_enter Tryz.func33, Tryz.ntmps33
      go_wp2_with fail
      refine CW.out.mono ?_
      rintro e w1 ⟨rfl, b1⟩
      have B1 := Lib.hid b1
      clear b1
      go_wp2
      go_ret
      exact ⟨rfl, ⟨l, HR.out.step B1.out, fun _ => tied_refl Hsr.out⟩, Fr.of_below B1.out⟩
  | false =>
    have h0 := not_bad hb
    obtain ⟨t, rfl⟩ : ∃ t : Nat, st = t := ⟨st.toNat, by omega⟩
    have hnb : ¬ putBad s (t : Int) bs.length = true := by rw [hb]; simp
    have hb2 := hb
    rw [hbl] at hb2
    unfold putBad at hb2
    simp only [Bool.or_eq_false_iff, Bool.not_eq_false'] at hb2
    obtain ⟨h1, h2, h3, h4⟩ := hb2
    obtain ⟨o1, o2, o3, o4⟩ := worked_ok h1
    rw [h1] at CW
    have hk3 : k ≤ 1048576 := by have := of_decide_eq_false h4; omega
    have hst : t ≤ 1099511627776 := by have := of_decide_eq_false h3; omega
    have hpl : (putNum t).length ≤ 9 := putNum_len_le (by unfold top62; omega)
    have hpp := putNum_len_pos t
    have HAns : Hid (putAns cap l s bs t = if putFull cap l s bs t = true then 4 else 0) := Lib.hid (by unfold putAns; rw [if_neg hnb])
    have HPL : Hid (∀ hd2, putL cap l s bs t hd2 = if putFull cap l s bs t = true then dropF l (shName (wname s)) else putF (dropF l (shName (wname s))) (wname s) hd2 (wbytes t bs)) := Lib.hid (fun hd2 => by unfold putL; rw [if_neg hnb]; rfl)
    have O1 := Lib.hid o1
    have O2 := Lib.hid o2
    have O3 := Lib.hid o3
    have Hbl := Lib.hid hbl
    have CN := Lib.hid (fun W => rname20_any s W (by omega))
    have CP := Lib.hid (fun W => refPutNum_nat none 0 0 t [] W Sl.nil_ (by omega) (by omega))
    clear h hA h1 o1 o2 o3 hb hnb hbl
    go_enter Tryz.func33, Tryz.ntmps33
    go_wp2_with fail
    refine CW.out.mono ?_
    rintro e w1 ⟨rfl, b1⟩
    have B1 := Lib.hid b1
    clear b1 CW
    go_wp2_with fail
    refine (CN.out w1).mono ?_
    rintro e w2 ⟨rfl, h2'⟩
    obtain rfl := h2'.symm
    clear h2' CN
    go_wp2_with fail
    refine (CP.out w1).mono ?_
    rintro e w2 ⟨A2, k2, c2, rfl, hO2⟩
    rw [List.nil_append] at hO2
    have e2 : (putNum t).length = k2 := ow_len hO2
    have HO2 := Lib.hid hO2
    have B2 := Lib.hid (bstep B1.out hO2.2)
    have HA2 := Lib.hid (HA.out.below B2.out)
    have HO3 := Lib.hid (hO2.since B1.out)
    have q1 : k2 + k ≤ maxLen := by simp only [maxLen]; omega
    have q2 : (k2 + k) * 1 ≤ 140737488355328 := by omega
    have q3 : 0 < k2 + k := by omega
    have q4 : k2 + k ≤ 2000000 := by omega
    clear hO2 CP
    go_wp2_with (at_builtin; refine wpList_append_sl _ rfl (.tmp 29) (.tmp 30) _ rfl w 5 i0 _ 1 1 Tryz.underlying27 hi0 hz0 hz1 hz2 rfl Nat.one_pos A2 k2 c2 _ rfl HO3.out A k c (u8s bs) rfl HA2.out (one_u8s bs) q1 q2 ?_; intro A5 c5 w5 hO5 hg5 hat5; have HO5 := Lib.hid hO5; clear hO5 hg5 hat5)
    have ho5 := HO5.out
    rw [show u8s (putNum t) ++ u8s bs = u8s (wbytes t bs) by unfold wbytes; simp [u8s]] at ho5
    have hwl : (wbytes t bs).length = k2 + k := ow_len ho5
    have hb5 := ho5.2
    have CS := Lib.hid (rdsave_any w5 r cap l (wname s) A5 (k2 + k) c5 (wbytes t bs) (HR.out.step hb5) hsr hc hcap (ho5.slT.weak (fun _ _ _ => trivial)) q3 q4 ho5.cap.1 O1.out O2.out O3.out)
    have B5 := Lib.hid hb5
    have Hwl := Lib.hid hwl
    clear ho5 hwl hb5 HO5 hsr hc
    go_wp2_with fail
    refine CS.out.mono ?_
    rintro e w6 (⟨rfl, z1, z2, z3⟩ | ⟨rfl, z1, ⟨hd, hd', z3⟩, z4⟩)
    · have HF : Hid (putFull cap l s bs t = true) := Lib.hid (decide_eq_true (by rw [show ((t : Int).toNat) = t from rfl, Hwl.out]; push_cast at z1 ⊢; omega))
      have Z2 := Lib.hid z2
      have Z3 := Lib.hid z3
      clear z1 z2 z3 CS
      go_wp2
      go_ret
      refine ⟨by rw [HAns.out, if_pos HF.out]; rfl, ⟨_, Z2.out, fun hd2 => ?_⟩, (Fr.of_below B5.out).trans Z3.out⟩
      rw [HPL.out, if_pos HF.out]
      exact tied_refl (srt_drop Hsr.out _)
    · have HF : Hid (¬ putFull cap l s bs t = true) := Lib.hid (fun h => by
        have h1 := of_decide_eq_true h
        rw [show ((t : Int).toNat) = t from rfl, Hwl.out] at h1
        push_cast at z1 h1
        omega)
      have Z3 := Lib.hid z3
      have Z4 := Lib.hid z4
      clear z1 z3 z4 CS
      go_wp2
      go_ret
      refine ⟨by rw [HAns.out, if_neg HF.out]; rfl, ⟨_, Z3.out, fun hd2 => ?_⟩, (Fr.of_below B5.out).trans Z4.out⟩
      rw [HPL.out, if_neg HF.out]
      exact saveR_tied (tied_refl Hsr.out) _ _ _ _ _
end Go.Proofs.YtphnfcgdpdimbaaGreatDoor

/-
  dolmenref04.Load. Conditions: the room is one; the files can be read, are no more than 1000, names and contents no longer than 1048576.
-/
namespace Go.Proofs.YtphnfcgdpdimbaaGreatDoor
open Go.RowKit

def rl9Phi (b off n c i r : Nat) (x : List UInt8 × RwB) : Nat → Value → World → Prop
  | 0, v, _ => v = .pointer (some ⟨r, 0, none⟩)
  | 1, v, _ => v = .slice (some ⟨b, off, none⟩) n c
  | 2, v, _ => v = I ((i : Int))
  | 3, v, _ => v = .pointer (some ⟨b, off + i * 2, none⟩)
  | 4, v, _ => v = .pointer (some ⟨b, off + i * 2, none⟩)
  | 5, v, _ => v = S x.1
  | 6, v, _ => v = .slice (some ⟨b, off, none⟩) n c
  | 7, v, _ => v = I ((i : Int))
  | 8, v, _ => v = .pointer (some ⟨b, off + i * 2, none⟩)
  | 9, v, _ => v = .pointer (some ⟨b, off + i * 2 + 1, none⟩)
  | 10, v, _ => v = .slice x.2.A x.2.n x.2.c
  | _, _, _ => True
theorem rl9Phi_mono {b off n c i r : Nat} {x : List UInt8 × RwB} : ∀ (j : Nat) (v : Value) (w w' : World), rl9Phi b off n c i r x j v w → Below w.heap.size w w' → rl9Phi b off n c i r x j v w' := by
  intro j v w w' h _
  match j, h with
  | 0, h => exact h
  | 1, h => exact h
  | 2, h => exact h
  | 3, h => exact h
  | 4, h => exact h
  | 5, h => exact h
  | 6, h => exact h
  | 7, h => exact h
  | 8, h => exact h
  | 9, h => exact h
  | 10, h => exact h
  | (n + 11), _ => trivial
/-- a file's name and bytes -/
def rn (x : List UInt8 × RwB) : List UInt8 × List UInt8 := (x.1, x.2.l)
theorem RdAt.step_fr {w w' : World} {B r : Nat} (hb : B ≤ w.heap.size) (hr : B ≤ r) (hf : Fr (fun k => k = r) w w') : Below B w w' := hf.below hb (fun k e => by rw [e]; exact hr)
set_option maxHeartbeats 8000000 in
set_option maxRecDepth 100000 in
theorem rload_any (w : World) (z : Int) (A : Option Addr) (n c : Nat) (raw : List (List UInt8 × RwB)) (hz0 : 0 ≤ z) (hz1 : z ≤ 1099511627776) (hA : Sl w 2 A n (rfs raw)) (hn : n ≤ 1000) (hg : ∀ f ∈ raw, f.1.length ≤ 1048576 ∧ f.2.ok w) :
    Calls Tryz.prog 31 #[I z, .slice A n c] w fun e w' => ∃ (v : Value) (y : Int), e = .returned (.tuple #[v, I y]) ∧ (y = 0 → ∃ r l, v = .pointer (some ⟨r, 0, none⟩) ∧ w.heap.size ≤ r ∧ RdAt w' r z l ∧ Srt l ∧ (l.map nb).Perm (raw.map rn)) ∧ Below w.heap.size w w' := by
  have CN := Lib.hid (rdnew_ok z w hz0 hz1)
  have hln := rfs_count hA
  have Hln := Lib.hid hln
  have HA := Lib.hid hA
  have Hg := Lib.hid hg
  have Hz := Lib.hid (And.intro hz0 hz1)
  have Hn := Lib.hid hn
  clear hA hg hz0 hz1 hln hn
  go_enter Tryz.func31, Tryz.ntmps31
  go_wp2_with fail
  refine CN.out.mono ?_
  rintro e w1 ⟨r, rfl, hr, hR, b1⟩
  have Hr := Lib.hid hr
  have HR := Lib.hid hR
  have B1 := Lib.hid b1
  clear hr hR b1 CN
  go_wp2
  go_loopw [8] (fun v wr => ∃ (i : Nat) (l : List DF), i ≤ n ∧ v = .int .i64 i ∧ Hid (RdAt wr r z l) ∧ Hid (Srt l ∧ (l.map nb).Perm ((raw.take i).map rn) ∧ l.length = i ∧ costs l ≤ i * 3000000) ∧ Hid (Below w.heap.size w wr)) (fun v _ => n - (intOf v).toNat)
  case atStart => exact ⟨0, [], Nat.zero_le _, rfl, HR, Lib.hid ⟨List.Pairwise.nil, List.Perm.refl _, rfl, Nat.le_refl _⟩, B1⟩
  case round =>
    obtain ⟨i, l, hi, rfl, hRl, hL, hB⟩ := hrel
    have hn9 := Hn.out
    have hl9 : l.length ≤ 1000 := by have := hL.out.2.2.1; omega
    by_cases hlt : i < n
    · obtain ⟨b, off, x, rfl, hbw, hx, x0, x1⟩ := HA.out.rf hlt
      obtain ⟨hg1, hg2⟩ := Hg.out x (List.mem_of_getElem? hx)
      have HX : Hid (∀ V, Below wr.heap.size wr V → V.cell? ⟨b, off + i * 2, none⟩ = some (S x.1) ∧ V.cell? ⟨b, off + i * 2 + 1, none⟩ = some (.slice x.2.A x.2.n x.2.c)) := Lib.hid (fun V hV => by
        have h9 := bstep hB.out hV
        exact ⟨(World.cell?_of_block (h9.block b hbw)).trans x0, (World.cell?_of_block (h9.block b hbw)).trans x1⟩)
      have HG2 := Lib.hid hg2
      obtain ⟨y0, y1⟩ := HX.out wr (Below.refl _ _)
      have CK := Lib.hid (fun W => rdnamed_any W x.1 (by omega))
      have CH := Lib.hid (fun W hW => rdhas_any W r z l x.1 hW (by omega))
      have Hx := Lib.hid hx
      have hnn : x.2.n ≤ 1048576 := hg2.2
      clear hg2 hx x0 x1 hbw
      rcases hok : okName x.1 with _ | _
      · rw [hok] at CK
        clear hok
        go_wp2_with (go_at_call 82; refine (CK.out wr).mono ?_; rintro e w1 ⟨rfl, h1⟩; obtain rfl := h1.symm; clear h1)
        go_ret2
        exact ⟨_, _, rfl, fun h => absurd h (by decide), hB.out⟩
      · rw [hok] at CK
        have Hok := Lib.hid hok
        clear hok
        rcases hhas : rfHas l x.1 with _ | _
        · rw [hhas] at CH
          have hcs : ∀ hd : Hd, costs (rdPut l x.1 hd x.2.l) = costs l + (16 + x.1.length + x.2.l.length) := fun hd => rdput_costs hL.out.1 hhas x.2.l
          have hlp : ∀ hd : Hd, (rdPut l x.1 hd x.2.l).length = l.length + 1 := fun hd => by
            rw [(put_perm hL.out.1 hd x.2.l).length_eq]
            unfold putF
            rw [dropF_none (fun hm => by rw [(rf_iff hL.out.1).2 hm] at hhas; cases hhas), List.length_cons]
          have hpp : ∀ hd : Hd, ((rdPut l x.1 hd x.2.l).map nb).Perm ((raw.take (i + 1)).map rn) := fun hd => by
            refine ((put_perm hL.out.1 hd x.2.l).map nb).trans ?_
            unfold putF
            rw [dropF_none (fun hm => by rw [(rf_iff hL.out.1).2 hm] at hhas; cases hhas), List.take_add_one, Hx.out, List.map_append, List.map_cons]
            exact ((hL.out.2.1.cons _).trans (List.perm_append_singleton _ _).symm)
          have hll := RwB.ok_len HG2.out
          have HN : Hid (∀ hd : Hd, Srt (rdPut l x.1 hd x.2.l) ∧ ((rdPut l x.1 hd x.2.l).map nb).Perm ((raw.take (i + 1)).map rn) ∧ (rdPut l x.1 hd x.2.l).length = i + 1 ∧ costs (rdPut l x.1 hd x.2.l) ≤ (i + 1) * 3000000) := Lib.hid (fun hd =>
            ⟨srt_put hL.out.1 hd _, hpp hd, by rw [hlp hd, hL.out.2.2.1], by rw [hcs hd]; have := hL.out.2.2.2; omega⟩)
          have CP : Hid (∀ W, Below wr.heap.size wr W → Calls Tryz.prog 84 #[.pointer (some ⟨r, 0, none⟩), S x.1, .slice x.2.A x.2.n x.2.c] W fun e w' => e = .returned (.tuple #[]) ∧ (∃ hd : Hd, hd.n = x.2.n ∧ RdAt w' r z (rdPut l x.1 hd x.2.l)) ∧ Fr (fun k => k = r) W w') := Lib.hid (fun W hW =>
            rdput_any W r z l x.1 (hRl.out.step hW) (by omega) x.2.A x.2.n x.2.c x.2.l (HG2.out.1.below (bstep hB.out hW)) (by omega))
          clear hhas hcs hlp hpp hll hl9 hg1 hnn y0 y1
          obtain ⟨y0, y1⟩ := HX.out wr (Below.refl _ _)
          go_wp2_with (go_at_call 82; refine (CK.out wr).mono ?_; rintro e w1 ⟨rfl, h1⟩; obtain rfl := h1.symm; clear h1)
          refine (CH.out wr hRl.out).mono ?_
          rintro e w2 ⟨rfl, m2, hw2⟩
          have B2 : Hid (Below wr.heap.size wr w2) := Lib.hid (by rw [hw2]; exact below_drewN (Below.refl _ wr) m2)
          clear hw2 CH CK
          have HX' : Hid (∀ V, Below w2.heap.size w2 V → V.cell? ⟨b, off + i * 2, none⟩ = some (S x.1) ∧ V.cell? ⟨b, off + i * 2 + 1, none⟩ = some (.slice x.2.A x.2.n x.2.c)) := Lib.hid (fun V hV => HX.out V (bstep B2.out hV))
          have CP' := Lib.hid (fun W (hW : Below w2.heap.size w2 W) => CP.out W (bstep B2.out hW))
          clear HX CP
          have HX := HX'
          have CP := CP'
          clear HX' CP' y0 y1
          go_wp2
          refine wp_region_guards (by kernel_rfl) 11 (by kernel_rfl) ?_ (rl9Phi b off n c i r x) rl9Phi_mono (fun i9 o hi ho a w hb hs hm => ?_) (fun o ho a w5 hb hs hm => ?_)
          · exact dst_lt9 (n := 55) (by kernel_rfl)
          · exact match i9, hi, ho with
              | 0, _, ho => by
                  cases ho
                  rw [if_pos (wanted_none _ rfl)]
                  refine wp_value (st_move rfl ((hs.keeps (by kernel_rfl)).trans rfl)) ⟨_, rfl, rfl, Below.refl _ _⟩
              | 1, _, ho => by
                  cases ho
                  rw [if_pos (wanted_none _ rfl)]
                  refine wp_value (st_move rfl ((hs.keeps (by kernel_rfl)).trans rfl)) ⟨_, rfl, rfl, Below.refl _ _⟩
              | 2, _, ho => by
                  cases ho
                  rw [if_pos (wanted_none _ rfl)]
                  refine wp_value (st_move rfl ((hs.keeps (by kernel_rfl)).trans rfl)) ⟨_, rfl, rfl, Below.refl _ _⟩
              | 3, _, ho => by
                  cases ho
                  rw [if_pos (wanted_none _ rfl)]
                  have h1 := eval_getD (hm.get 1 40 (by kernel_rfl)); have h2 := eval_getD (hm.get 2 41 (by kernel_rfl)); unfold Oper.wp; simp only [execOp]; go_simp; exact ⟨_, rfl, rfl, Below.refl _ _⟩
              | 4, _, ho => by
                  cases ho
                  rw [if_pos (wanted_none _ rfl)]
                  have h1 := eval_getD (hm.get 3 42 (by kernel_rfl)); unfold Oper.wp; simp only [execOp]; go_simp; exact ⟨_, rfl, rfl, Below.refl _ _⟩
              | 5, _, ho => by
                  cases ho
                  rw [if_pos (wanted_none _ rfl)]
                  have hx := (HX.out w hb).1; have h1 := eval_getD (hm.get 4 43 (by kernel_rfl)); unfold Oper.wp; simp only [execOp]; go_simp; exact ⟨_, rfl, rfl, Below.refl _ _⟩
              | 6, _, ho => by
                  cases ho
                  rw [if_pos (wanted_none _ rfl)]
                  refine wp_value (st_move rfl ((hs.keeps (by kernel_rfl)).trans rfl)) ⟨_, rfl, rfl, Below.refl _ _⟩
              | 7, _, ho => by
                  cases ho
                  rw [if_pos (wanted_none _ rfl)]
                  refine wp_value (st_move rfl ((hs.keeps (by kernel_rfl)).trans rfl)) ⟨_, rfl, rfl, Below.refl _ _⟩
              | 8, _, ho => by
                  cases ho
                  rw [if_pos (wanted_none _ rfl)]
                  have h1 := eval_getD (hm.get 6 45 (by kernel_rfl)); have h2 := eval_getD (hm.get 7 46 (by kernel_rfl)); unfold Oper.wp; simp only [execOp]; go_simp; exact ⟨_, rfl, rfl, Below.refl _ _⟩
              | 9, _, ho => by
                  cases ho
                  rw [if_pos (wanted_none _ rfl)]
                  have h1 := eval_getD (hm.get 8 47 (by kernel_rfl)); unfold Oper.wp; simp only [execOp]; go_simp; exact ⟨_, rfl, rfl, Below.refl _ _⟩
              | 10, _, ho => by
                  cases ho
                  rw [if_pos (wanted_none _ rfl)]
                  have hx := (HX.out w hb).2; have h1 := eval_getD (hm.get 9 48 (by kernel_rfl)); unfold Oper.wp; simp only [execOp]; go_simp; exact ⟨_, rfl, rfl, Below.refl _ _⟩
              | (n + 11), hi, _ => absurd hi (by omega)

          · have e1 : a.eval (.tmp 39) = .pointer (some ⟨r, 0, none⟩) := by cases ho; exact hm.get 0 39 (by kernel_rfl)
            have e2 : a.eval (.tmp 44) = S x.1 := by cases ho; exact hm.get 5 44 (by kernel_rfl)
            have e3 : a.eval (.tmp 49) = .slice x.2.A x.2.n x.2.c := by cases ho; exact hm.get 10 49 (by kernel_rfl)
            have hfr := hs.frame [39, 40, 41, 42, 43, 44, 45, 46, 47, 48, 49, 50] (by kernel_rfl)
            have B5 := Lib.hid hb
            cases ho
            rw [hfr]
            simp only [List.foldl_cons, List.foldl_nil, e1, e2, e3]
            clear hfr hs hm e1 e2 e3 hb HX
            generalize a.eval (.tmp 39) = u39
            generalize a.eval (.tmp 40) = u40
            generalize a.eval (.tmp 41) = u41
            generalize a.eval (.tmp 42) = u42
            generalize a.eval (.tmp 43) = u43
            generalize a.eval (.tmp 44) = u44
            generalize a.eval (.tmp 45) = u45
            generalize a.eval (.tmp 46) = u46
            generalize a.eval (.tmp 47) = u47
            generalize a.eval (.tmp 48) = u48
            generalize a.eval (.tmp 49) = u49
            generalize a.eval (.tmp 50) = u50
            unfold Oper.wp
            simp only [execOp]
            go_simp
            clear a
            refine (CP.out w5 B5.out).mono ?_
            rintro e w6 ⟨rfl, ⟨hd, hdn, h6⟩, f6⟩
            have H6 := Lib.hid h6
            have B6 : Hid (Below w.heap.size w w6) := Lib.hid (by
              have h9 := bstep (bstep hB.out B2.out) B5.out
              exact h9.trans (RdAt.step_fr h9.size Hr.out f6))
            clear h6 f6 CP
            go_wp2
            go_roundw
            case rel => exact ⟨i + 1, rdPut l x.1 hd x.2.l, hlt, by go_num, H6, Lib.hid (HN.out hd), B6⟩
            case measure => simp [intOf]; omega
        · rw [hhas] at CH
          clear hhas
          go_wp2_with (go_at_call 82; refine (CK.out wr).mono ?_; rintro e w1 ⟨rfl, h1⟩; obtain rfl := h1.symm; clear h1)
          refine (CH.out wr hRl.out).mono ?_
          rintro e w2 ⟨rfl, m2, hw2⟩
          have B2 : Hid (Below wr.heap.size wr w2) := Lib.hid (by rw [hw2]; exact below_drewN (Below.refl _ wr) m2)
          clear hw2 CH CK
          go_wp2
          go_ret2
          exact ⟨_, _, rfl, fun h => absurd h (by decide), bstep hB.out B2.out⟩
    · obtain rfl : i = n := by omega
      have hcs : costs l ≤ 3000000000 := by have := hL.out.2.2.2; omega
      have CF := Lib.hid (rdfree_any wr r z l hRl.out (by omega) Hz.out (by omega))
      obtain ⟨fr, hfr⟩ : ∃ fr : Int, fr = z - costs l := ⟨_, rfl⟩
      rw [← hfr] at CF
      clear hfr hcs
      have hways : decide (fr < 0) = true ∨ decide (fr < 0) = false := by cases decide (fr < 0) <;> simp
      have HP : Hid (Srt l ∧ (l.map nb).Perm (raw.map rn)) := Lib.hid (by
        have h1 := hL.out.2.1
        rw [List.take_of_length_le (by rw [Hln.out]; exact Nat.le_refl _)] at h1
        exact ⟨hL.out.1, h1⟩)
      go_wp2_with fail
      refine CF.out.mono ?_
      rintro e w2 ⟨rfl, m2, hw2⟩
      have B2 : Hid (Below wr.heap.size wr w2) := Lib.hid (by rw [hw2]; exact below_drewN (Below.refl _ wr) m2)
      clear hw2 CF
      rcases hways with d1 | d1
      · go_wp2
        go_ret2
        exact ⟨_, _, rfl, fun h => absurd h (by decide), bstep hB.out B2.out⟩
      · go_wp2
        go_ret2
        exact ⟨_, _, rfl, fun _ => ⟨r, l, rfl, Hr.out, hRl.out.step B2.out, HP.out.1, HP.out.2⟩, bstep hB.out B2.out⟩
end Go.Proofs.YtphnfcgdpdimbaaGreatDoor

/-
  disk.Load. Conditions: the room is one; the files can be read, are no more than 1000, names and contents no longer than 1048576.
-/
namespace Go.Proofs.YtphnfcgdpdimbaaGreatDoor
open Go.RowKit

def dl9Phi (W : World) (p m g : Nat) (s : List UInt8) (RA : Option Addr) (rk rc9 : Nat) (bs : List UInt8) : Nat → Value → World → Prop
  | 0, v, _ => v = .pointer (some ⟨p, 0, none⟩)
  | 1, v, _ => v = .pointer (some ⟨p, 0, none⟩)
  | 2, v, _ => v = .pointer (some ⟨p, 1, none⟩)
  | 3, v, _ => v = .map (some m)
  | 4, v, _ => v = .pointer (some ⟨g, 0, none⟩)
  | 5, v, _ => v = S s
  | 6, v, _ => v = .pointer (some ⟨g, 1, none⟩)
  | 7, v, _ => v = .slice RA rk rc9
  | 8, v, w => ∃ (A' : Option Addr) (k' c' : Nat), v = .slice A' k' c' ∧ bs.length = k' ∧ Ow W w 5 1 A' k' c' (u8s bs)
  | _, _, _ => True
theorem dl9Phi_mono {W : World} {p m g : Nat} {s : List UInt8} {RA : Option Addr} {rk rc9 : Nat} {bs : List UInt8} : ∀ (j : Nat) (v : Value) (w w' : World), dl9Phi W p m g s RA rk rc9 bs j v w → Below w.heap.size w w' → dl9Phi W p m g s RA rk rc9 bs j v w' := by
  intro j v w w' h hb9
  match j, h with
  | 0, h => exact h
  | 1, h => exact h
  | 2, h => exact h
  | 3, h => exact h
  | 4, h => exact h
  | 5, h => exact h
  | 6, h => exact h
  | 7, h => exact h
  | 8, h => obtain ⟨A', k', c', h1, h2, h3⟩ := h; exact ⟨A', k', c', h1, h2, h3.keep hb9⟩
  | (n + 9), _ => trivial
def dl10Phi (p g : Nat) (free co nf : Int) (s : List UInt8) : Nat → Value → World → Prop
  | 0, v, _ => v = .pointer (some ⟨p, 0, none⟩)
  | 1, v, _ => v = .pointer (some ⟨p, 0, none⟩)
  | 2, v, _ => v = .pointer (some ⟨p, 2, none⟩)
  | 3, v, _ => v = I free
  | 4, v, _ => v = .pointer (some ⟨p, 0, none⟩)
  | 5, v, _ => v = .pointer (some ⟨g, 0, none⟩)
  | 6, v, _ => v = S s
  | 7, v, _ => v = I co
  | 8, v, _ => v = I nf
  | 9, v, _ => v = .pointer (some ⟨p, 0, none⟩)
  | 10, v, _ => v = .pointer (some ⟨p, 2, none⟩)
  | _, _, _ => True
theorem dl10Phi_mono {p g : Nat} {free co nf : Int} {s : List UInt8} : ∀ (j : Nat) (v : Value) (w w' : World), dl10Phi p g free co nf s j v w → Below w.heap.size w w' → dl10Phi p g free co nf s j v w' := by
  intro j v w w' h _
  match j, h with
  | 0, h => exact h
  | 1, h => exact h
  | 2, h => exact h
  | 3, h => exact h
  | 4, h => exact h
  | 5, h => exact h
  | 6, h => exact h
  | 7, h => exact h
  | 8, h => exact h
  | 9, h => exact h
  | 10, h => exact h
  | (n + 11), _ => trivial
set_option maxRecDepth 100000 in
theorem dcost_map (w : World) (p m n : Nat) (cap free ops : Int) (M : List (List UInt8 × Hd)) (s : List UInt8) (hd : Hd) (hB : Blk w p 151 (dskC m cap free ops)) (hM : MapL diskC w m n M) (hg : lk M s = some hd) (hs : s.length ≤ 1048576) (hd9 : hd.n ≤ 1048576) :
    Calls Tryz.prog 81 #[.pointer (some ⟨p, 0, none⟩), S s] w fun e w' => e = .returned (I (16 + s.length + hd.n)) ∧ w' = w := by
  have rc := hB.cell
  simp only [dskC] at rc
  have hm := hM.is
  have Hgd := Lib.hid (show diskC.good s from by show s.length ≤ maxLen; simp only [maxLen]; omega)
  have E1 := Lib.hid hg
  have E2 : Hid (diskC.vv hd = .slice hd.a hd.n hd.c) := Lib.hid rfl
  have k1 : IntKind.i64.wrap ((16 : Int) + s.length) = 16 + s.length := IntWalk.i64_in _ (by omega)
  have k2 : IntKind.i64.wrap ((16 : Int) + s.length + hd.n) = 16 + s.length + hd.n := IntWalk.i64_in _ (by omega)
  clear hB hM hg
  go_enter Tryz.func81, Tryz.ntmps81
  go_wp2_with (at_lookup; refine wpList_look_ok _ rfl _ _ 144 rfl diskC Tryz.underlying144 ⟨none, 0, 0⟩ (Tryz.zeroH _) m n _ rfl hm s rfl Hgd.out ?_; rw [E1.out]; simp only [Option.getD_some]; rw [E2.out])
  go_ret
  exact ⟨rfl, rfl⟩
set_option maxHeartbeats 8000000 in
set_option maxRecDepth 100000 in
theorem dload_any (w : World) (z : Int) (A : Option Addr) (n c : Nat) (raw : List (List UInt8 × RwB)) (hz0 : 0 ≤ z) (hz1 : z ≤ 1099511627776) (hA : Sl w 2 A n (rfs raw)) (hn : n ≤ 1000) (hg : ∀ f ∈ raw, f.1.length ≤ 1048576 ∧ f.2.ok w) :
    Calls Tryz.prog 30 #[I z, .slice A n c] w fun e w' => ∃ (v : Value) (y : Int), e = .returned (.tuple #[v, I y]) ∧ (y = 0 → ∃ p m L, v = .pointer (some ⟨p, 0, none⟩) ∧ w.heap.size ≤ p ∧ w.heap.size ≤ m ∧ DiskAt w' p m n z L ∧ (costs L : Int) ≤ z ∧ (L.map nb).Perm (raw.map rn)) ∧ Below w.heap.size w w' := by
  have CN := Lib.hid (dnew_ok z w hz0 hz1)
  have hln := rfs_count hA
  have Hln := Lib.hid hln
  have HA := Lib.hid hA
  have Hg := Lib.hid hg
  have Hz := Lib.hid (And.intro hz0 hz1)
  have Hn := Lib.hid hn
  clear hA hg hz0 hz1 hln hn
  go_enter Tryz.func30, Tryz.ntmps30
  go_wp2_with fail
  refine CN.out.mono ?_
  rintro e w1 ⟨p, m, rfl, hp, hm, hD, b1⟩
  have Hp := Lib.hid (And.intro hp hm)
  have HD := Lib.hid hD
  have B1 := Lib.hid b1
  clear hp hm hD b1 CN
  go_wp2
  go_loopw [20] (fun v wr => ∃ (i : Nat) (L : List DF), i ≤ n ∧ v = .int .i64 i ∧ Hid (DiskAt wr p m i z L) ∧ Hid ((L.map nb).Perm ((raw.take i).map rn) ∧ costs L ≤ i * 3000000) ∧ Hid (Below w.heap.size w wr)) (fun v _ => n - (intOf v).toNat)
  case atStart => exact ⟨0, [], Nat.zero_le _, rfl, HD, Lib.hid ⟨List.Perm.refl _, Nat.le_refl _⟩, B1⟩
  case round =>
    obtain ⟨i, L, hi, rfl, hDL, hL, hB⟩ := hrel
    have hn9 := Hn.out
    by_cases hlt : i < n
    · obtain ⟨b, off, x, rfl, hbw, hx, x0, x1⟩ := HA.out.rf hlt
      obtain ⟨hg1, hg2⟩ := Hg.out x (List.mem_of_getElem? hx)
      have y0 := (World.cell?_of_block (hB.out.block b hbw)).trans x0
      have y1 := (World.cell?_of_block (hB.out.block b hbw)).trans x1
      have HG2 := Lib.hid hg2
      obtain ⟨s, r⟩ := x
      obtain ⟨RA, rk, rc9, bs⟩ := r
      have hrk : rk ≤ 1048576 := hg2.2
      have hbl : bs.length = rk := RwB.ok_len hg2
      have Hx := Lib.hid hx
      change s.length ≤ 1048576 at hg1
      have CK := Lib.hid (dnamed_any (some ⟨(wr.alloc (.cells #[S s, .slice RA rk rc9] 88)).heap.size, 0, none⟩) 1 1 [s] ((wr.alloc (.cells #[S s, .slice RA rk rc9] 88)).alloc (.cells #[S s] 9)) (strs_one _ s) (by omega))
      rw [World.size_alloc, show ([s].all okName) = okName s by simp] at CK
      clear hg2 hx x0 x1 hbw
      go_wp2_with fail
      refine CK.out.mono ?_
      rintro e w3 ⟨rfl, b3⟩
      have B3 := Lib.hid (bstep (balloc (balloc (Below.refl _ wr) _) _) b3)
      have HBg : Hid (Blk w3 wr.heap.size 88 #[S s, .slice RA rk rc9]) := Lib.hid (((Blk.new wr _ _).alloc _).step b3)
      obtain ⟨g, hgw⟩ : ∃ g, g = wr.heap.size := ⟨_, rfl⟩
      rw [← hgw] at HBg
      simp only [← hgw]
      have Hgw := Lib.hid hgw
      clear b3 CK hgw
      have HD3 := Lib.hid (hDL.out.step B3.out)
      have rg := HBg.out.cell
      rcases hok : okName s with _ | _
      · clear hok
        go_wp2
        go_ret2
        exact ⟨_, _, rfl, fun h => absurd h (by decide), bstep hB.out B3.out⟩
      have Hok := Lib.hid hok
      clear hok
      have CH := Lib.hid (dHas_any w3 p m i z L s HD3.out (by simp only [maxLen]; omega))
      cases hgs : getF L s with
      | some y9 =>
        rw [hgs] at CH
        clear hgs
        go_wp2_with (go_at_call 79; refine CH.out.mono ?_; rintro e w4 ⟨rfl, h4⟩; obtain rfl := h4.symm; clear h4)
        go_ret2
        exact ⟨_, _, rfl, fun h => absurd h (by decide), bstep hB.out B3.out⟩
      | none =>
        rw [hgs] at CH
        have Hgs := Lib.hid hgs
        clear hgs
        go_wp2_with (go_at_call 79; refine CH.out.mono ?_; rintro e w4 ⟨rfl, h4⟩; obtain rfl := h4.symm; clear h4)
        obtain ⟨ops, hBp⟩ := HD3.out.blk
        obtain ⟨free, hfree⟩ : ∃ free : Int, free = z - costs L := ⟨_, rfl⟩
        rw [← hfree] at hBp
        have HBp : Hid (Blk w3 p 151 (dskC m z free ops)) := Lib.hid hBp
        have Hfree := Lib.hid hfree
        have CC := Lib.hid (fun W (hb : Below w3.heap.size w3 W) => cloneB_any RA rk rc9 bs W (HG2.out.1.below (bstep (bstep hB.out B3.out) hb)) (by omega))
        clear hBp hfree CH rg y0 y1
        refine wp_region_guards (by kernel_rfl) 9 (by kernel_rfl) ?_ (dl9Phi w3 p m g s RA rk rc9 bs) dl9Phi_mono (fun i9 o hi ho a w hb hs hm => ?_) (fun o ho a w5 hb hs hm => ?_)
        · exact dst_lt9 (n := 62) (by kernel_rfl)
        · exact match i9, hi, ho with
              | 0, _, ho => by
                  cases ho
                  rw [if_pos (wanted_none _ rfl)]
                  refine wp_value (st_move rfl ((hs.keeps (by kernel_rfl)).trans rfl)) ⟨_, rfl, rfl, Below.refl _ _⟩
              | 1, _, ho => by
                  cases ho
                  rw [if_pos (wanted_none _ rfl)]
                  refine wp_value (st_nil rfl (hm.get 0 35 (by kernel_rfl))) ⟨_, rfl, rfl, Below.refl _ _⟩
              | 2, _, ho => by
                  cases ho
                  rw [if_pos (wanted_none _ rfl)]
                  refine wp_value (st_field rfl (hm.get 1 36 (by kernel_rfl)) (by kernel_rfl)) ⟨_, rfl, rfl, Below.refl _ _⟩
              | 3, _, ho => by
                  cases ho
                  rw [if_pos (wanted_none _ rfl)]
                  have hx : w.cell? ⟨p, 1, none⟩ = some (.map (some m)) := (HBp.out.step hb).cell 1; refine wp_value (st_load rfl (hm.get 2 37 (by kernel_rfl)) (by go_simp)) ⟨_, rfl, rfl, Below.refl _ _⟩
              | 4, _, ho => by
                  cases ho
                  rw [if_pos (wanted_none _ rfl)]
                  refine wp_value (st_field rfl ((hs.keeps (by kernel_rfl)).trans rfl) (by kernel_rfl)) ⟨_, rfl, rfl, Below.refl _ _⟩
              | 5, _, ho => by
                  cases ho
                  rw [if_pos (wanted_none _ rfl)]
                  have hx : w.cell? ⟨g, 0, none⟩ = some (S s) := (HBg.out.step hb).cell 0; refine wp_value (st_load rfl (hm.get 4 39 (by kernel_rfl)) (by go_simp)) ⟨_, rfl, rfl, Below.refl _ _⟩
              | 6, _, ho => by
                  cases ho
                  rw [if_pos (wanted_none _ rfl)]
                  refine wp_value (st_field rfl ((hs.keeps (by kernel_rfl)).trans rfl) (by kernel_rfl)) ⟨_, rfl, rfl, Below.refl _ _⟩
              | 7, _, ho => by
                  cases ho
                  rw [if_pos (wanted_none _ rfl)]
                  have hx : w.cell? ⟨g, 1, none⟩ = some (.slice RA rk rc9) := (HBg.out.step hb).cell 1; refine wp_value (st_load rfl (hm.get 6 41 (by kernel_rfl)) (by go_simp)) ⟨_, rfl, rfl, Below.refl _ _⟩
              | 8, _, ho => by
                  cases ho
                  rw [if_pos (wanted_none _ rfl)]
                  have h1 := eval_getD (hm.get 7 42 (by kernel_rfl)); unfold Oper.wp; simp only [execOp]; go_simp; refine (CC.out w hb).mono ?_; rintro e w6 ⟨A6, k6, c6, rfl, hO6⟩; exact ⟨_, rfl, ⟨A6, k6, c6, rfl, ow_len hO6, hO6.since hb⟩, hO6.2⟩
              | (n + 9), hi, _ => absurd hi (by omega)

        · have e1 : a.eval (.tmp 38) = .map (some m) := by cases ho; exact hm.get 3 38 (by kernel_rfl)
          have e2 : a.eval (.tmp 40) = S s := by cases ho; exact hm.get 5 40 (by kernel_rfl)
          refine Exists.elim (show ∃ (A' : Option Addr) (k' c' : Nat), a.eval (.tmp 43) = .slice A' k' c' ∧ bs.length = k' ∧ Ow w3 w5 5 1 A' k' c' (u8s bs) by cases ho; exact hm.get 8 43 (by kernel_rfl)) fun A6 h9 => ?_
          obtain ⟨k6, c6, h91, h92, h93⟩ := h9
          obtain ⟨hd, hd1, hd2, hOd⟩ := hd_of h93
          rw [← hd1] at h91
          have e3 : a.eval (.tmp 43) = diskC.vv hd := h91
          have HM5 := (HD3.out.map.step hb)
          obtain ⟨w7, hrun, hM7, hg7⟩ := HM5.run_store Tryz.underlying144 (by simp only [maxLen]; omega) (show diskC.good s from by show s.length ≤ maxLen; simp only [maxLen]; omega) hd
          have hfr := hs.frame [35, 36, 37, 38, 39, 40, 41, 42, 43] (by kernel_rfl)
          have B5 := Lib.hid hb
          have HOd := Lib.hid hOd
          have Hdn : Hid (hd.n = bs.length) := Lib.hid (by omega)
          have HM7 := Lib.hid hM7
          have HG7 := Lib.hid hg7
          cases ho
          rw [hfr]
          simp only [List.foldl_cons, List.foldl_nil, e1, e2, e3]
          clear hfr hs hm e1 e2 e3 hb CC h91 h92 h93 hd1 hd2 hOd hM7 hg7 HM5
          generalize a.eval (.tmp 35) = u35
          generalize a.eval (.tmp 36) = u36
          generalize a.eval (.tmp 37) = u37
          generalize a.eval (.tmp 38) = u38
          generalize a.eval (.tmp 39) = u39
          generalize a.eval (.tmp 40) = u40
          generalize a.eval (.tmp 41) = u41
          generalize a.eval (.tmp 42) = u42
          generalize a.eval (.tmp 43) = u43
          unfold Oper.wp
          simp only [execOp]
          go_simp
          rw [show (Instr.mapUpdate 144 (.map (some m)) (S s) (diskC.vv hd)).run Tryz.prog w5 = .ok () w7 from hrun]
          clear a hrun
          have hmp := HD3.out.map_ne
          have hmg : m ≠ g := HD3.out.map.ne_blk HBg.out
          have HBp7 : Hid (Blk w7 p 151 (dskC m z free ops)) := Lib.hid ((HBp.out.step B5.out).grown HG7.out (fun e => hmp (Option.some.inj e).symm))
          have HBg7 : Hid (Blk w7 g 88 #[S s, .slice RA rk rc9]) := Lib.hid ((HBg.out.step B5.out).grown HG7.out (fun e => hmg (Option.some.inj e).symm))
          have hlk : lk (layL (keyF L) s hd) s = some hd := by
            rw [← keyF_put L s hd bs, getF_lk, getF_put, if_pos rfl]
            rfl
          obtain ⟨co, hco⟩ : ∃ co : Int, co = 16 + s.length + hd.n := ⟨_, rfl⟩
          have CC : Hid (∀ W, Below w7.heap.size w7 W → Calls Tryz.prog 81 #[.pointer (some ⟨p, 0, none⟩), S s] W fun e w' => e = .returned (I co) ∧ w' = W) := Lib.hid (fun W hb => by
            rw [hco]
            exact dcost_map W p m (i + 1) z free ops _ s hd (HBp7.out.step hb) (HM7.out.step hb) hlk hg1 (by have := Hdn.out; omega))
          obtain ⟨nf, hnf⟩ : ∃ nf : Int, nf = free - co := ⟨_, rfl⟩
          have Hnf : Hid (nf = z - costs (putF L s hd bs)) := Lib.hid (by rw [hnf, hco, Hfree.out, put_costs Hgs.out]; have := Hdn.out; omega)
          have HNF : Hid (IntKind.i64.wrap (free - co) = nf) := Lib.hid (by
            rw [hnf]
            have h1 := Hfree.out
            have h2 := hL.out.2
            have h3 := Hz.out
            have h4 := Hdn.out
            exact IntWalk.i64_in _ (by omega))
          have KW : Hid (KeepT 5 wr w7) := Lib.hid ((KeepT.of_below (bstep B3.out B5.out)).trans ((KeepT.refl _ w5).grown HG7.out (fun k e => by cases e; exact (HD3.out.map.step B5.out).is.no_cells)))
          have KO : Hid (KeepT 5 w5 w7) := Lib.hid ((KeepT.refl _ w5).grown HG7.out (fun k e => by cases e; exact (HD3.out.map.step B5.out).is.no_cells))
          have F7 : Hid (Fr (fun k => k = p ∨ k = m) wr w7) := Lib.hid ((Fr.of_below (bstep B3.out B5.out)).trans (.of_grown HG7.out (fun k e => .inr (Option.some.inj e).symm)))
          have Hmp := Lib.hid hmp
          clear hlk hco hnf hmp hmg B5 HG7
          go_wp2
          refine wp_region_guards (by kernel_rfl) 11 (by kernel_rfl) ?_ (dl10Phi p g free co nf s) dl10Phi_mono (fun i9 o hi ho a w hb hs hm => ?_) (fun o ho a w8 hb hs hm => ?_)
          · exact dst_lt9 (n := 62) (by kernel_rfl)
          · have HBp := HBp7
            have HBg := HBg7
            exact match i9, hi, ho with
                | 0, _, ho => by
                    cases ho
                    rw [if_pos (wanted_none _ rfl)]
                    refine wp_value (st_move rfl ((hs.keeps (by kernel_rfl)).trans rfl)) ⟨_, rfl, rfl, Below.refl _ _⟩
                | 1, _, ho => by
                    cases ho
                    rw [if_pos (wanted_none _ rfl)]
                    refine wp_value (st_nil rfl (hm.get 0 44 (by kernel_rfl))) ⟨_, rfl, rfl, Below.refl _ _⟩
                | 2, _, ho => by
                    cases ho
                    rw [if_pos (wanted_none _ rfl)]
                    refine wp_value (st_field rfl (hm.get 1 45 (by kernel_rfl)) (by kernel_rfl)) ⟨_, rfl, rfl, Below.refl _ _⟩
                | 3, _, ho => by
                    cases ho
                    rw [if_pos (wanted_none _ rfl)]
                    have hx : w.cell? ⟨p, 2, none⟩ = some (I free) := (HBp.out.step hb).cell 2; refine wp_value (st_load rfl (hm.get 2 46 (by kernel_rfl)) (by go_simp)) ⟨_, rfl, rfl, Below.refl _ _⟩
                | 4, _, ho => by
                    cases ho
                    rw [if_pos (wanted_none _ rfl)]
                    refine wp_value (st_move rfl ((hs.keeps (by kernel_rfl)).trans rfl)) ⟨_, rfl, rfl, Below.refl _ _⟩
                | 5, _, ho => by
                    cases ho
                    rw [if_pos (wanted_none _ rfl)]
                    refine wp_value (st_field rfl ((hs.keeps (by kernel_rfl)).trans rfl) (by kernel_rfl)) ⟨_, rfl, rfl, Below.refl _ _⟩
                | 6, _, ho => by
                    cases ho
                    rw [if_pos (wanted_none _ rfl)]
                    have hx : w.cell? ⟨g, 0, none⟩ = some (S s) := (HBg.out.step hb).cell 0; refine wp_value (st_load rfl (hm.get 5 49 (by kernel_rfl)) (by go_simp)) ⟨_, rfl, rfl, Below.refl _ _⟩
                | 7, _, ho => by
                    cases ho
                    rw [if_pos (wanted_none _ rfl)]
                    have h1 := eval_getD (hm.get 4 48 (by kernel_rfl)); have h2 := eval_getD (hm.get 6 50 (by kernel_rfl)); unfold Oper.wp; simp only [execOp]; go_simp; refine (CC.out w hb).mono ?_; rintro e w6 ⟨rfl, h6⟩; obtain rfl := h6.symm; exact ⟨_, rfl, rfl, Below.refl _ _⟩
                | 8, _, ho => by
                    cases ho
                    rw [if_pos (wanted_none _ rfl)]
                    have h1 := eval_getD (hm.get 3 47 (by kernel_rfl)); have h2 := eval_getD (hm.get 7 51 (by kernel_rfl)); unfold Oper.wp; simp only [execOp]; go_simp; exact ⟨_, rfl, (show Value.int _ _ = Value.int _ _ by rw [HNF.out]), Below.refl _ _⟩
                | 9, _, ho => by
                    cases ho
                    rw [if_pos (wanted_none _ rfl)]
                    refine wp_value (st_nil rfl (hm.get 0 44 (by kernel_rfl))) ⟨_, rfl, rfl, Below.refl _ _⟩
                | 10, _, ho => by
                    cases ho
                    rw [if_pos (wanted_none _ rfl)]
                    refine wp_value (st_field rfl (hm.get 9 53 (by kernel_rfl)) (by kernel_rfl)) ⟨_, rfl, rfl, Below.refl _ _⟩
                | (n + 11), hi, _ => absurd hi (by omega)

          · have e1 : a.eval (.tmp 54) = .pointer (some ⟨p, 2, none⟩) := by cases ho; exact hm.get 10 54 (by kernel_rfl)
            have e2 : a.eval (.tmp 52) = I nf := by cases ho; exact hm.get 8 52 (by kernel_rfl)
            have hfr := hs.frame [44, 45, 46, 47, 48, 49, 50, 51, 52, 53, 54] (by kernel_rfl)
            have B8 := Lib.hid hb
            have hB8 := HBp7.out.step hb
            have rf := hB8.frozen
            have rc8 := hB8.cell
            simp only [dskC] at rc8
            have HB8 := Lib.hid hB8
            cases ho
            rw [hfr]
            simp only [List.foldl_cons, List.foldl_nil, e1, e2]
            clear hfr hs hm e1 e2 hb CC hB8
            generalize a.eval (.tmp 44) = u44
            generalize a.eval (.tmp 45) = u45
            generalize a.eval (.tmp 46) = u46
            generalize a.eval (.tmp 47) = u47
            generalize a.eval (.tmp 48) = u48
            generalize a.eval (.tmp 49) = u49
            generalize a.eval (.tmp 50) = u50
            generalize a.eval (.tmp 51) = u51
            generalize a.eval (.tmp 52) = u52
            generalize a.eval (.tmp 53) = u53
            generalize a.eval (.tmp 54) = u54
            unfold Oper.wp
            simp only [execOp]
            go_simp
            clear a
            go_wp2
            go_roundw
            case rel =>
              refine ⟨i + 1, putF L s hd bs, hlt, by go_num, Lib.hid ?_, Lib.hid ⟨?_, ?_⟩, Lib.hid ?_⟩
              · have hbn := (HBp7.out.step B8.out).set_ 2 (I nf)
                have hrow : ∀ x ∈ putF L s hd bs, SlT (fun _ => True) 5 w7 1 x.2.1.a x.2.1.n (u8s x.2.2) := fun x hx => by
                  rcases List.mem_cons.1 hx with rfl | hx
                  · exact (HOd.out.slT.weak (fun _ _ _ => trivial)).keep KO.out
                  · exact (hDL.out.row x (List.mem_filter.1 hx).1).keep KW.out
                refine ⟨⟨ops, by rw [← Hnf.out]; exact hbn⟩, by rw [keyF_put]; exact (HM7.out.step B8.out).far (by show m ≠ p; exact Hmp.out) _, fun x hx => ((hrow x hx).step B8.out).keep ((KeepT.refl _ _).setCell HB8.out (by decide) rfl _), fun x hx => ?_, fun x hx => ?_⟩
                · rcases List.mem_cons.1 hx with rfl | hx
                  · exact Hok.out
                  · exact hDL.out.name x (List.mem_filter.1 hx).1
                · rcases List.mem_cons.1 hx with rfl | hx
                  · show hd.n ≤ _
                    have := Hdn.out
                    omega
                  · exact hDL.out.small x (List.mem_filter.1 hx).1
              · unfold putF
                rw [dropF_none (getF_none.1 Hgs.out), List.take_add_one, Hx.out, List.map_append, List.map_cons]
                exact (hL.out.1.cons _).trans (List.perm_append_singleton _ _).symm
              · rw [put_costs Hgs.out]
                have := hL.out.2
                omega
              · have F8 : Fr (fun k => k = p ∨ k = m) wr (w8.setCell ⟨p, 2, none⟩ (I nf)) := (F7.out.step B8.out).setCell (p := ⟨p, 2, none⟩) (.inl rfl) _
                exact hB.out.trans (F8.below hB.out.size (fun k e => by rcases e with rfl | rfl; exact Hp.out.1; exact Hp.out.2))
            case measure => simp [intOf]; omega
    · obtain rfl : i = n := by omega
      have hcs : costs L ≤ 3000000000 := by have := hL.out.2; omega
      obtain ⟨ops, hBp⟩ := hDL.out.blk
      obtain ⟨fr, hfr⟩ : ∃ fr : Int, fr = z - costs L := ⟨_, rfl⟩
      rw [← hfr] at hBp
      have rc := hBp.cell
      have Hfr := Lib.hid hfr
      clear hfr hcs hBp
      have hways : decide (fr < 0) = true ∨ decide (fr < 0) = false := by cases decide (fr < 0) <;> simp
      have HP : Hid ((L.map nb).Perm (raw.map rn)) := Lib.hid (by
        have h1 := hL.out.1
        rwa [List.take_of_length_le (by rw [Hln.out]; exact Nat.le_refl _)] at h1)
      rcases hways with d1 | d1
      · go_wp2
        go_ret2
        exact ⟨_, _, rfl, fun h => absurd h (by decide), hB.out⟩
      · have Hd1 := Lib.hid (of_decide_eq_false d1)
        go_wp2
        go_ret2
        exact ⟨_, _, rfl, fun _ => ⟨p, rfl, Hp.out.1, m, Hp.out.2, L, hDL.out, by have h1 := Hd1.out; have h2 := Hfr.out; omega, HP.out⟩, hB.out⟩
end Go.Proofs.YtphnfcgdpdimbaaGreatDoor

/-
  Texts merged: RdApp, RdRen, RdSave, RdSave2, RPut20. What each law says and asks stands at its head.
-/
import Derived.Test.YtphnfcgdpdimbaaGreatDoorRKitH
import Derived.Test.YtphnfcgdpdimbaaGreatDoorRKitDi
import Derived.Test.YtphnfcgdpdimbaaGreatDoorRKitIx
import Derived.Test.YtphnfcgdpdimbaaGreatDoorRKitW
import Derived.Test.YtphnfcgdpdimbaaGreatDoorRKitX
import Derived.Test.YtphnfcgdpdimbaaGreatDoorRWorkPut
namespace Go.Proofs.YtphnfcgdpdimbaaGreatDoor
open Go.RowKit
theorem oldR_le (l : List DF) (s : List UInt8) : (oldR l s).length ≤ costs l := by
 unfold oldR
 split
 ·rename_i hh
  obtain ⟨x, hx, _⟩ := rf_has hh
  rw [hx]
  have := one_costs (List.mem_of_getElem? hx)
  simp
  omega
 ·simp
theorem RdAt.kept {w w' : World} {r : Nat} {cap : Int} {l : List DF} (h : RdAt w r cap l) (hf : Fr (fun k => k = r) w w') : KeepT 5 w w' := by
 obtain ⟨A, n, c, done, hB, _⟩ := h
 exact KeepT.of_fr hf (fun k cs fr e => by subst e; exact Blk.type hB (by decide) cs fr)
theorem u8s_snoc9 {w : World} {A : Option Addr} {n : Nat} {a b : List UInt8} (h : Sl w 1 A n (u8s a ++ u8s b)) : Sl w 1 A n (u8s (a ++ b)) := by
 unfold u8s at h ⊢
 rwa [List.map_append]
theorem ow_small {w w' : World} {A : Option Addr} {n c N : Nat} {l : List UInt8} (h : Ow w w' 5 1 A n c (u8s l)) (hl : l.length ≤ N) : n ≤ N := by
 have := h.len
 simp [u8s] at this
 omega
theorem drop_len (l : List DF) (s : List UInt8) : (dropF l s).length ≤ l.length := List.length_filter_le _ _
def curR (l : List DF) (sh bs : List UInt8) (j : Nat) (hd : Hd) : List DF := if j = 0 then l else rdPut l sh hd (bs.take (64 * j))
section
variable {l : List DF} {sh bs : List UInt8} {j : Nat} {hd : Hd}
theorem curR_has (h : rfHas l sh = false) : rfHas (curR l sh bs j hd) sh = decide (0 < j) := by
 unfold curR
 by_cases hj : j = 0
 ·rw [if_pos hj, h, hj]; rfl
 ·rw [if_neg hj, (has_put l sh hd _).1, decide_eq_true (by omega)]
theorem curR_old (h : rfHas l sh = false) : oldR (curR l sh bs j hd) sh = bs.take (64 * j) := by
 unfold curR
 by_cases hj : j = 0
 ·rw [if_pos hj, hj]
  unfold oldR
  rw [h]
  rfl
 ·rw [if_neg hj, (has_put l sh hd _).2]
theorem curR_put (hd' : Hd) (b : List UInt8) : rdPut (curR l sh bs j hd) sh hd' b = rdPut l sh hd' b := by
 unfold curR
 split
 ·rfl
 ·exact put_again _ _ _ _ _ _
theorem rdput_costs (hs : Srt l) (h : rfHas l sh = false) (b : List UInt8) : costs (rdPut l sh hd b) = costs l + (16 + sh.length + b.length) := by
 rw [costs_perm ((put_perm hs hd b).map nb)]
 unfold putF
 rw [dropF_none (fun hm => by rw [(rf_iff hs).2 hm] at h; cases h)]
 show cost1 (sh, hd, b) + costs l = _
 unfold cost1
 simp only
 omega
theorem curR_costs (hs : Srt l) (h : rfHas l sh = false) : costs (curR l sh bs j hd) = costs l + (if j = 0 then 0 else 16 + sh.length + min (64 * j) bs.length) := by
 unfold curR
 by_cases hj : j = 0
 ·rw [if_pos hj, if_pos hj]; rfl
 ·rw [if_neg hj, if_neg hj, rdput_costs hs h, List.length_take]
end
theorem has_drop {l : List DF} (hs : Srt l) (s : List UInt8) : rfHas (dropF l s) s = false := by
 cases h : rfHas (dropF l s) s with
 | false => rfl
 | true =>
  have h1 := (rf_iff (srt_drop hs s)).1 h
  obtain ⟨x, hx, e⟩ := List.mem_map.1 h1
  have := (List.mem_filter.1 hx).2
  simp [e] at this
set_option maxRecDepth 100000 in
theorem rshadow_no (s : List UInt8) (w : World) (hs0 : s ≠ []) (hs1 : Lib.hasSuffix s [126] = false) (hl : s.length ≤ 2147483648) :
  Calls Tryz.prog 154 #[S s] w fun e w' => e = .returned (.bool false) ∧ w' = w := by
 rcases List.eq_nil_or_concat s with rfl | ⟨t, x, rfl⟩
 ·exact absurd rfl hs0
 have hx : x ≠ 126 := by
  rintro rfl
  unfold Lib.hasSuffix at hs1
  rw [Bool.eq_false_iff] at hs1
  exact hs1 (by rw [List.isSuffixOf_iff_suffix]; exact ⟨t, by simp⟩)
 have e1 : t.concat x = t ++ [x] := by simp
 rw [e1] at hl ⊢
 have hlen : (t ++ [x]).length = t.length + 1 := by simp
 have hat : (t ++ [x])[t.length]? = some x := by simp
 obtain ⟨s, hs⟩ : ∃ s, s = t ++ [x] := ⟨_, rfl⟩
 obtain ⟨k, hk⟩ : ∃ k, k = t.length := ⟨_, rfl⟩
 rw [← hs] at hl hlen hat ⊢
 rw [← hk] at hlen hat
 have hh : k < (⟨s.toArray⟩ : ByteArray).size := by show k < s.toArray.size; simp; omega
 have hv := byte_at hat hh
 have d1 : ((((⟨s.toArray⟩ : ByteArray)[k]'hh).toNat : Int) == 126) = false := by
  rw [hv]
  refine beq_eq_false_iff_ne.2 (fun e => hx ?_)
  exact UInt8.toNat_inj.1 (by have : x.toNat = 126 := (by omega); rw [this]; rfl)
 have d2 : decide ((0 : Int) < (s.length : Int)) = true := decide_eq_true (by omega)
 have k1 : IntKind.i64.wrap ((s.length : Int) - 1) = (k : Int) := by rw [IntWalk.i64_in _ (by omega)]; omega
 clear hv hat hs hk hx e1 hs0 hs1
 go_enter Tryz.func154, Tryz.ntmps154
 go_wp2
 go_ret
 exact ⟨rfl, rfl⟩
set_option maxRecDepth 100000 in
theorem rneed_any (w : World) (s : List UInt8) (n : Nat) (hs : s.length ≤ 1000000) (hn : n ≤ 1000000000) :
  Calls Tryz.prog 156 #[S s, I n] w fun e w' => e = .returned (I (16 + s.length + 1 + n)) ∧ w' = w := by
 have k1 : IntKind.i64.wrap ((16 : Int) + s.length) = 16 + s.length := IntWalk.i64_in _ (by omega)
 have k2 : IntKind.i64.wrap ((16 : Int) + s.length + 1) = 16 + s.length + 1 := IntWalk.i64_in _ (by omega)
 have k3 : IntKind.i64.wrap ((16 : Int) + s.length + 1 + n) = 16 + s.length + 1 + n := IntWalk.i64_in _ (by omega)
 have k4 : max (n : Int) 0 = n := by omega
 go_enter Tryz.func156, Tryz.ntmps156
 go_wp2
 go_ret
 exact ⟨rfl, rfl⟩
def saveR (l : List DF) (s bs : List UInt8) (hd hd' : Hd) : List DF := rdPut (dropF (rdPut (dropF l (shName s)) (shName s) hd bs) (shName s)) s hd' bs
end Go.Proofs.YtphnfcgdpdimbaaGreatDoor
namespace Go.Proofs.YtphnfcgdpdimbaaGreatDoor
open Go.RowKit
open PathLaw (named)
theorem saveR_tied {l L : List DF} (h : Tied l L) (s bs : List UInt8) (hd hd' hd2 : Hd) : Tied (saveR l s bs hd hd') (putF (dropF L (shName s)) s hd2 bs) := by
 have h1 := ((((h.drop (shName s)).put (shName s) hd hd2 bs).drop (shName s)).put s hd' hd2 bs)
 rw [drop_put] at h1
 have e : dropF (dropF L (shName s)) (shName s) = dropF L (shName s) := dropF_none (fun hm => by
  obtain ⟨x, hx, e⟩ := List.mem_map.1 hm
  have := (List.mem_filter.1 hx).2
  simp [e] at this)
 rwa [e] at h1
end Go.Proofs.YtphnfcgdpdimbaaGreatDoor

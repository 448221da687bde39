/-
  Texts merged: LinesLaw, LineSplit, RefSplit. What each law says and asks stands at its head.
-/
import Derived.Lib.Split
import Derived.Lib.SplitLaws
import Derived.Lib.Join
import Derived.Test.YtphnfcgdpdimbaaGreatDoorRKitLa
import Derived.Test.YtphnfcgdpdimbaaGreatDoorRKitX
import Derived.Test.YtphnfcgdpdimbaaGreatDoorShelf
import Derived.Outline
namespace Go.Proofs.YtphnfcgdpdimbaaGreatDoor
namespace LinesLaw
abbrev Bs := List UInt8
def lns : Bs → List Bs
 | [] => []
 | x :: b => if x = 10 then [x] :: lns b else match lns b with
  | [] => [[x]]
  | l :: ls => (x :: l) :: ls
def sa : Bs → List Bs
 | [] => [[]]
 | x :: b => if x = 10 then [x] :: sa b else match sa b with
  | [] => [[x]]
  | l :: ls => (x :: l) :: ls
theorem sa_ne (s : Bs) : sa s ≠ [] := by
 cases s with
 | nil => simp [sa]
 | cons x b =>
  unfold sa
  split
  ·simp
  ·split <;> simp
theorem lns_nil {s : Bs} (h : lns s = []) : s = [] := by
 cases s with
 | nil => rfl
 | cons x b =>
  unfold lns at h
  split at h
  ·cases h
  ·split at h <;> cases h
def closedB (s : Bs) : Bool := s.isEmpty || s.getLast? == some 10
theorem sa_lns : ∀ s : Bs, sa s = lns s ++ (if closedB s = true then [[]] else [])
 | [] => by simp [sa, lns, closedB]
 | x :: b => by
  have ih := sa_lns b
  unfold sa lns
  by_cases hx : x = 10
  ·rw [if_pos hx, if_pos hx, ih, List.cons_append]
   subst hx
   congr 2
   cases b with
   | nil => simp [closedB]
   | cons y b => simp [closedB]
  ·rw [if_neg hx, if_neg hx]
   cases hb : b with
   | nil => simp [sa, lns, closedB, hx]
   | cons y b' =>
    rw [← hb]
    have hne : lns b ≠ [] := fun h => by have := lns_nil h; rw [hb] at this; cases this
    have hc : closedB (x :: b) = closedB b := by rw [hb]; simp [closedB]
    cases hl : lns b with
    | nil => exact absurd hl hne
    | cons l ls =>
     rw [hl] at ih
     rw [ih, hc]
     rfl
theorem lns_mem : ∀ (s l : Bs), l ∈ lns s → l ≠ []
 | [], _, h => by simp [lns] at h
 | x :: b, l, h => by
  unfold lns at h
  split at h
  ·rcases List.mem_cons.1 h with rfl | h
   ·simp
   ·exact lns_mem b l h
  ·split at h
   ·simp at h; subst h; simp
   ·rename_i l' ls hl
    rcases List.mem_cons.1 h with rfl | h
    ·simp
    ·exact lns_mem b l (by rw [hl]; simp [h])
theorem lns_line : ∀ (p r : Bs), (10 : UInt8) ∉ p → lns (p ++ 10 :: r) = (p ++ [10]) :: lns r
 | [], r, _ => by simp [lns]
 | x :: p, r, h => by
  have hx : x ≠ 10 := fun e => h (by simp [e])
  rw [List.cons_append]
  conv => lhs; unfold lns
  rw [if_neg hx, lns_line p r (fun h' => h (by simp [h']))]
  rfl
theorem lns_last : ∀ (p : Bs) (x : UInt8), (10 : UInt8) ∉ p → lns (p ++ [x]) = [p ++ [x]]
 | [], x, _ => by by_cases h : x = 10 <;> simp [lns, h]
 | y :: p, x, h => by
  have hy : y ≠ 10 := fun e => h (by simp [e])
  rw [List.cons_append]
  unfold lns
  rw [if_neg hy, lns_last p x (fun h' => h (by simp [h']))]
theorem lns_len : ∀ s : Bs, (lns s).length ≤ s.length
 | [] => by simp [lns]
 | x :: b => by
  have ih := lns_len b
  unfold lns
  split
  ·simp; omega
  ·split
   ·simp
   ·rename_i l ls h; rw [h] at ih; simp at ih ⊢; omega
theorem sa_len (s : Bs) : (sa s).length ≤ s.length + 1 := by
 rw [sa_lns, List.length_append]
 have := lns_len s
 split <;> simp <;> omega
theorem sa_index : ∀ (s : Bs), (Lib.indexByte s 10 = -1 → sa s = [s]) ∧ ∀ i : Nat, Lib.indexByte s 10 = i → sa s = s.take (i + 1) :: sa (s.drop (i + 1))
 | [] => ⟨fun _ => by simp [sa], fun i h => by simp [Lib.indexByte] at h⟩
 | x :: b => by
  obtain ⟨h1, h2⟩ := sa_index b
  have hge := Lib.indexByte_ge b 10
  by_cases hx : x = 10
  ·have e : Lib.indexByte (x :: b) 10 = 0 := by simp [Lib.indexByte, hx]
   refine ⟨fun h => by omega, fun i h => ?_⟩
   obtain rfl : i = 0 := by omega
   conv => lhs; unfold sa
   simp [hx]
  ·have e : Lib.indexByte (x :: b) 10 = if Lib.indexByte b 10 == -1 then -1 else Lib.indexByte b 10 + 1 := by
    conv => lhs; unfold Lib.indexByte
    simp [hx]
   by_cases hb : Lib.indexByte b 10 = -1
   ·rw [hb] at e
    simp at e
    refine ⟨fun _ => ?_, fun i h => by omega⟩
    conv => lhs; unfold sa
    rw [if_neg hx, h1 hb]
   ·rw [if_neg (by simpa using hb)] at e
    refine ⟨fun h => by omega, fun i h => ?_⟩
    obtain ⟨k, rfl⟩ : ∃ k, i = k + 1 := ⟨i - 1, by omega⟩
    conv => lhs; unfold sa
    rw [if_neg hx, h2 k (by omega)]
    simp
theorem split_sa : ∀ (k : Nat) (s : Bs), Lib.count s [10] = k → Lib.splitK [10] 1 k s = sa s
 | 0, s, h => by
  rw [Lib.splitK]
  have hi := Lib.index_one s 10
  by_cases hm : Lib.index s [10] = -1
  ·exact ((sa_index s).1 (hi ▸ hm)).symm
  ·have hge := Lib.index_ge s [10]
   have := Lib.count_hit (s := s) (sub := [10]) (i := (Lib.index s [10]).toNat) (by simp) (by omega)
   omega
 | k + 1, s, h => by
  have hi := Lib.index_one s 10
  have hm : Lib.index s [10] ≠ -1 := fun hm => by have := Lib.count_miss hm; omega
  have hge := Lib.index_ge s [10]
  obtain ⟨i, hii⟩ : ∃ i : Nat, Lib.index s [10] = i := ⟨(Lib.index s [10]).toNat, by omega⟩
  have hc := Lib.count_hit (s := s) (sub := [10]) (i := i) (by simp) hii
  rw [Lib.splitK, if_neg (by simpa using hm), hii, (sa_index s).2 i (hi ▸ hii)]
  simp only [Int.toNat_natCast, List.length_singleton]
  rw [split_sa k _ (by simp only [List.length_singleton] at hc; omega)]
end LinesLaw
end Go.Proofs.YtphnfcgdpdimbaaGreatDoor
namespace Go.Proofs.YtphnfcgdpdimbaaGreatDoor
open Go.RowKit
open LinesLaw (lns sa)
theorem str_mkL (x : ByteArray) : Value.string x = S x.data.toList := by cases x; simp
theorem strs_ofL (l : List ByteArray) : l.map Value.string = strs (l.map (·.data.toList)) := by
 simp only [strs, List.map_map]
 exact List.map_congr_left (fun x _ => str_mkL x)
set_option maxHeartbeats 400000 in
theorem splitAfter_any (b : List UInt8) (w : World) (hb : b.length < 4294967281) (hM : MaxL w) :
  Calls Tryz.prog 273 #[S b, S [10]] w fun e w' => e = .returned (.slice (some ⟨w.heap.size, 0, none⟩) (sa b).length (sa b).length) ∧ w' = w.alloc (.cells (strs (sa b)).toArray 9) := by
 obtain ⟨m, hm⟩ := hM
 have hsz : (⟨b.toArray⟩ : ByteArray).size = b.length := size_mk b
 have hle := Lib.countB_le ⟨#[10]⟩ (by decide) (⟨b.toArray⟩ : ByteArray).size ⟨b.toArray⟩ (Nat.le_refl _)
 have hlen := Lib.splitB_all ⟨#[10]⟩ (by decide) 1 _ ⟨b.toArray⟩ rfl
 have c := Tryz.strings_genSplit ⟨b.toArray⟩ ⟨#[10]⟩ 1 (-1) (Lib.countB ⟨b.toArray⟩ ⟨#[10]⟩ + 1) m w (by omega) hm (by decide) (by decide) (by decide) (by decide) (by rw [if_pos (by decide)]; omega)
 have hd := Lib.splitB_data ⟨#[10]⟩ 1 (Lib.countB ⟨b.toArray⟩ ⟨#[10]⟩) ⟨b.toArray⟩
 have hsa : Lib.splitK [10] 1 (Lib.countB ⟨b.toArray⟩ ⟨#[10]⟩) b = sa b := LinesLaw.split_sa _ _ rfl
 dsimp only at hd
 rw [hsa] at hd
 have hl2 : (sa b).length = Lib.countB ⟨b.toArray⟩ ⟨#[10]⟩ + 1 := by rw [← hd, List.length_map, hlen]
 rw [Nat.add_sub_cancel, hlen] at c
 have e2 : Lib.cellsOf (Lib.splitB ⟨#[10]⟩ 1 (Lib.countB ⟨b.toArray⟩ ⟨#[10]⟩) ⟨b.toArray⟩) (Lib.countB ⟨b.toArray⟩ ⟨#[10]⟩ + 1) = (strs (sa b)).toArray := by rw [← hd, ← strs_ofL, ← hlen]; exact Lib.cellsOf_full _
 rw [e2, ← hl2] at c
 have C := Lib.hid c
 clear c hlen hle hd hsa e2 hl2 hm
 go_enter Tryz.func273, Tryz.ntmps273
 go_wp2_with fail
 refine C.out.mono ?_
 rintro e w' ⟨rfl, hw⟩
 rw [hw]
 go_wp2
 go_ret
 exact ⟨rfl, rfl⟩
theorem emptyEnd_any (A : Option Addr) (m c : Nat) (ss : List (List UInt8)) (s : List UInt8) (w : World) (hA : Sl w 1 A (m + 1) (strs ss)) (hm : m ≤ 9223372036854775806) (hs : ss[m]? = some s) :
  Calls Tryz.prog 274 #[.slice A (m + 1) c] w fun e w' => e = .returned (I (if s = [] then 1 else 0 : Nat)) ∧ w = w' := by
 obtain ⟨b, off, s', rfl, hs', hc⟩ := hA.str (k := m) (by omega)
 obtain rfl : s' = s := Option.some.inj (hs'.symm.trans hs)
 clear hs hs'
 by_cases h : s' = []
 ·subst h
  go_enter Tryz.func274, Tryz.ntmps274
  go_wp2
  go_ret
  exact ⟨rfl, rfl⟩
 ·have h1 : s'.isEmpty = false := by simpa using h
  rw [if_neg h]
  go_enter Tryz.func274, Tryz.ntmps274
  go_wp2
  go_ret
  exact ⟨rfl, rfl⟩
theorem sa_end (b : List UInt8) : ∃ s m k, (sa b).length = m + 1 ∧ (sa b)[m]? = some s ∧ k = (if s = [] then 1 else 0 : Nat) ∧ (sa b).take (m + 1 - k) = lns b := by
 have h := LinesLaw.sa_lns b
 have hne := LinesLaw.sa_ne b
 obtain ⟨m, hm⟩ : ∃ m, (sa b).length = m + 1 := ⟨(sa b).length - 1, by have := List.length_pos_iff.2 hne; omega⟩
 obtain ⟨s, hs⟩ : ∃ s, (sa b)[m]? = some s := ⟨(sa b)[m]'(by omega), List.getElem?_eq_getElem _⟩
 refine ⟨s, m, _, hm, hs, rfl, ?_⟩
 by_cases hc : LinesLaw.closedB b = true
 ·rw [if_pos hc] at h
  have hm' : (lns b).length = m := by have := congrArg List.length h; simp at this; omega
  have e : s = [] := by rw [h] at hs; rw [List.getElem?_append_right (by omega), hm'] at hs; simpa using hs.symm
  rw [if_pos e, h, Nat.add_sub_cancel, ← hm']
  simp
 ·rw [if_neg hc, List.append_nil] at h
  have e : ¬ s = [] := fun e => by
   rw [h] at hs
   exact LinesLaw.lns_mem b s (List.mem_of_getElem? hs) e
  rw [if_neg e, h, Nat.sub_zero, ← hm, h, List.take_length]
set_option maxHeartbeats 1000000 in
theorem split_new (A : Option Addr) (n c : Nat) (b : List UInt8) (w : World) (hA : Sl w 1 A n (u8s b)) (hn : n < 4294967281) (hM : MaxL w) :
  Calls Tryz.prog 216 #[.slice A n c] w fun e w' => ∃ m' c', e = .returned (.slice (some ⟨w.heap.size, 0, none⟩) m' c') ∧ m' ≤ c' ∧ m' ≤ n ∧ Sl w' 1 (some ⟨w.heap.size, 0, none⟩) m' (strs (lns b)) ∧ Below w.heap.size w w' := by
 have hlb : b.length = n := by simpa using hA.len
 have kc := fun (W : World) (h : Sl W 1 A n (u8s b)) => run_conv_str (P := Tryz.prog) W 27 9 5 A n c b Tryz.underlying27 Tryz.underlying5 Tryz.underlying9 h
 have k1 := kc w hA
 clear kc
 obtain ⟨s, m, k, h1, h2, h3, h4⟩ := sa_end b
 have hsl := LinesLaw.sa_len b
 have hk : k ≤ 1 := by rw [h3]; split <;> omega
 have hC := Lib.hid (splitAfter_any b w (by omega) hM)
 have hbl := Blk.new w 9 (strs (sa b)).toArray
 have hS := Blk.sl hbl
 rw [List.length_map, h1] at hS
 rw [h1] at hC
 obtain ⟨r, hr⟩ : ∃ r, m + 1 - k = r := ⟨_, rfl⟩
 have hri : (m : Int) + 1 - (k : Int) = (r : Int) := by omega
 have kcut := fun W : World => run_cut_h (P := Tryz.prog) W Tryz.underlying52 Tryz.sizeStr (some ⟨w.heap.size, 0, none⟩) (m + 1) (m + 1) .i64 r (by omega)
 have hS2 := Sl.head_ (f := S) (l := sa b) hS (k := r) (c := m + 1) (by omega) (Nat.le_refl _)
 have hE := emptyEnd_any _ m (m + 1) (sa b) s _ hS (by omega) h2
 rw [← h3] at hE
 have hrl : r ≤ n := by
  have := LinesLaw.lns_len b
  rw [← h4, List.length_take, hr, h1] at this
  omega
 rw [hr] at h4
 rw [h4] at hS2
 have HE := Lib.hid hE
 have HS2 := Lib.hid hS2
 clear hE hS2 hS hbl h1 h2 h3 h4 hr hM hA hsl
 go_enter Tryz.func216, Tryz.ntmps216
 go_wp2_with fail
 refine hC.out.mono ?_
 rintro e w' ⟨rfl, hw⟩
 rw [hw]
 go_wp2_with fail
 refine HE.out.mono ?_
 rintro e w2 ⟨rfl, rfl⟩
 go_wp2
 go_ret
 exact ⟨r, _, rfl, by omega, hrl, HS2.out, balloc (Below.refl _ _) _⟩
end Go.Proofs.YtphnfcgdpdimbaaGreatDoor
namespace Go.Proofs.YtphnfcgdpdimbaaGreatDoor
open Go.RowKit
theorem lns_cut {b : List UInt8} {f k n : Nat} {x : UInt8} (hn : b.length = n) (hf : f ≤ k) (hx : b[k]? = some x) (hno : (10 : UInt8) ∉ (b.drop f).take (k - f)) (hh : x = 10 ∨ k + 1 = n) :
  LinesLaw.lns (b.drop f) = (b.drop f).take (k + 1 - f) :: LinesLaw.lns (b.drop (k + 1)) := by
 obtain ⟨hk, hxe⟩ := List.getElem?_eq_some_iff.1 hx
 have e1 : (b.drop f).take (k + 1 - f) = (b.drop f).take (k - f) ++ [x] := by
  rw [show k + 1 - f = (k - f) + 1 by omega, List.take_add_one, List.getElem?_drop, show f + (k - f) = k by omega, hx]
  rfl
 have e2 : b.drop f = (b.drop f).take (k - f) ++ x :: b.drop (k + 1) := by
  conv => lhs; rw [← List.take_append_drop (k - f) (b.drop f), List.drop_drop, show f + (k - f) = k by omega, List.drop_eq_getElem_cons hk, hxe]
 rw [e1]
 rcases hh with rfl | h
 ·conv => lhs; rw [e2]
  exact LinesLaw.lns_line _ _ hno
 ·have e3 : b.drop (k + 1) = [] := List.drop_eq_nil_of_le (by omega)
  rw [e3] at e2 ⊢
  conv => lhs; rw [e2]
  rw [LinesLaw.lns_last _ _ hno]
  rfl
theorem no_more {b : List UInt8} {f k : Nat} {x : UInt8} (hf : f ≤ k) (hx : b[k]? = some x) (hno : (10 : UInt8) ∉ (b.drop f).take (k - f)) (hh : x ≠ 10) : (10 : UInt8) ∉ (b.drop f).take (k + 1 - f) := by
 rw [show k + 1 - f = (k - f) + 1 by omega, List.take_add_one, List.getElem?_drop, show f + (k - f) = k by omega, hx]
 intro h
 rcases List.mem_append.1 h with h | h
 ·exact hno h
 ·simp at h; exact hh h.symm
def SplitAt (b : List UInt8) (n k f : Nat) (L : List (List UInt8)) : Prop := f ≤ k ∧ L.length ≤ f ∧ LinesLaw.lns b = L ++ LinesLaw.lns (b.drop f) ∧ (10 : UInt8) ∉ (b.drop f).take (k - f) ∧ (k = n → f = n)
theorem SplitAt.cut {b : List UInt8} {n k f : Nat} {L : List (List UInt8)} (h : SplitAt b n k f L) {x : UInt8} (hn : b.length = n) (hx : b[k]? = some x) (hh : x = 10 ∨ k + 1 = n) : SplitAt b n (k + 1) (k + 1) (L ++ [(b.drop f).take (k + 1 - f)]) := by
 obtain ⟨h1, h2, h3, h4, h5⟩ := h
 refine ⟨Nat.le_refl _, by simp; omega, ?_, by simp, fun h => h⟩
 rw [h3, lns_cut hn h1 hx h4 hh]
 simp
theorem SplitAt.on {b : List UInt8} {n k f : Nat} {L : List (List UInt8)} (h : SplitAt b n k f L) {x : UInt8} (hx : b[k]? = some x) (h1 : x ≠ 10) (h2 : k + 1 ≠ n) : SplitAt b n (k + 1) f L :=
 ⟨by have := h.1; omega, h.2.1, h.2.2.1, no_more h.1 hx h.2.2.2.1 h1, fun e => absurd e h2⟩
theorem SplitAt.all {b : List UInt8} {n f : Nat} {L : List (List UInt8)} (h : SplitAt b n n f L) (hn : b.length = n) : L = LinesLaw.lns b := by
 rw [h.2.2.1, h.2.2.2.2 rfl, List.drop_eq_nil_of_le (by omega)]
 simp [LinesLaw.lns]
set_option maxHeartbeats 2000000 in
theorem refSplit_any (A : Option Addr) (n c : Nat) (b : List UInt8) (w : World) (hA : Sl w 1 A n (u8s b)) (hc : n ≤ c) (hn : n ≤ 4294967296) :
  Calls Tryz.prog 219 #[.slice A n c] w fun e w' => ∃ A' m' c', e = .returned (.slice A' m' c') ∧ m' ≤ n ∧ Ow w w' 9 1 A' m' c' (strs (LinesLaw.lns b)) := by
 have hlb : b.length = n := by simpa using hA.len
 have Hlb := Lib.hid hlb
 clear hlb
 obtain ⟨i0, hi0, hz0, hz1, hz2⟩ := info_parts Tryz.infoStr
 go_enter Tryz.func219, Tryz.ntmps219
 go_wp2
 go_loopw [3, 4, 5] (fun v fr i wr => ∃ (k f m c : Nat) (A : Option Addr) (L : List (List UInt8)), k ≤ n ∧ i = .int .i64 k ∧ fr = .int .i64 f ∧ v = .slice A m c ∧ Hid (SplitAt b n k f L) ∧ Ow w wr 9 1 A m c (strs L)) (fun _ _ i _ => n - (intOf i).toNat)
 case atStart => exact ⟨0, 0, 0, 0, none, [], Nat.zero_le _, rfl, rfl, rfl, Lib.hid ⟨Nat.le_refl _, Nat.le_refl _, by simp, by simp, fun h => h⟩, Ow.nil_ (Below.refl _ _)⟩
 case round =>
  obtain ⟨k, f, m, c2, A2, L, hk, rfl, rfl, rfl, HS, hO⟩ := hrel
  have hfk : f ≤ k := HS.out.1
  have hmf : m ≤ f := by have h1 := HS.out.2.1; have h2 := hO.len; simp at h2; omega
  by_cases hlt : k < n
  ·have hA2 := hA.below hO.2
   obtain ⟨b1, off, x, hAe, hx, hcell⟩ := hA2.byte hlt
   have Hx := Lib.hid hx
   clear hx
   by_cases hh : x = 10 ∨ k + 1 = n
   ·have kcut := run_cut_lh (P := Tryz.prog) wr Tryz.underlying27 Tryz.sizeU8 A n c .i64 .i64 f (k + 1) (by omega) (by omega)
    have hmid := Sl.mid_ (f := U8) (l := b) hA2 (j := f) (k := k + 1) (c := c) (by omega) (by omega) hc
    have kconv := run_conv_str (P := Tryz.prog) wr 27 9 5 _ (k + 1 - f) (c - f) _ Tryz.underlying27 Tryz.underlying5 Tryz.underlying9 hmid
    obtain ⟨piece, hp⟩ : ∃ piece, (b.drop f).take (k + 1 - f) = piece := ⟨_, rfl⟩
    rw [hp] at kconv
    have Hp := Lib.hid hp
    clear hp hmid hA2
    have ec : ((k + 1 : Nat) : Int) = (k : Int) + 1 := by omega
    rw [ec] at kcut
    subst hAe
    have ways : ((x.toNat : Int) == 10) = true ∨ ((x.toNat : Int) == 10) = false ∧ ((k : Int) == (n : Int) - 1) = true := by
     by_cases h10 : x = 10
     ·left; subst h10; rfl
     ·right
      refine ⟨?_, ?_⟩
      ·simp only [beq_eq_false_iff_ne, ne_eq]; intro h; exact h10 (UInt8.toNat_inj.1 (by show x.toNat = 10; omega))
      ·have : k + 1 = n := by rcases hh with h | h; exact absurd h h10; exact h
       simp; omega
    have HH := Lib.hid hh
    clear hh ec
    have hm63 : m + 1 ≤ maxLen := by simp only [maxLen]; omega
    have hm16 : (m + 1) * 16 ≤ 140737488355328 := by omega
    have hOa := hO.alloc (.cells #[S piece] 9)
    have hone := sl_one wr 9 (S piece)
    rcases ways with h1 | ⟨h1, h2⟩
    all_goals
     go_wp2_with (at_builtin; refine wpList_append_sl _ rfl (.tmp 24) (.tmp 31) _ rfl w 9 i0 _ 1 16 Tryz.underlying52 hi0 hz0 hz1 hz2 rfl Nat.one_pos A2 m c2 _ rfl hOa (some ⟨wr.heap.size, 0, none⟩) 1 1 [S piece] rfl hone (one_one rfl) hm63 hm16 ?_; intro A3 c3 w3 hO3 hg3 ha3)
     go_roundw
     case rel => exact ⟨k + 1, k + 1, _, _, _, L ++ [piece], by omega, by go_num, by go_num, rfl, Lib.hid (Hp.out ▸ HS.out.cut Hlb.out Hx.out HH.out), by rw [strs, List.map_append]; exact hO3⟩
     case measure => simp [intOf]; omega
   ·have h1 : ((x.toNat : Int) == 10) = false := by
     simp only [beq_eq_false_iff_ne, ne_eq]; intro h; exact hh (.inl (UInt8.toNat_inj.1 (by show x.toNat = 10; omega)))
    have h2 : ((k : Int) == (n : Int) - 1) = false := by
     simp only [beq_eq_false_iff_ne, ne_eq]; intro h; exact hh (.inr (by omega))
    have HH := Lib.hid hh
    clear hh hA2
    subst hAe
    go_wp2
    go_roundw
    case rel => exact ⟨k + 1, f, _, _, _, L, by omega, by go_num, rfl, rfl, Lib.hid (HS.out.on Hx.out (fun h => HH.out (.inl h)) (fun h => HH.out (.inr h))), hO⟩
    case measure => simp [intOf]; omega
  ·obtain rfl : k = n := by omega
   have e := HS.out.all Hlb.out
   subst e
   go_wp2
   go_ret
   exact ⟨A2, m, c2, rfl, by omega, hO⟩
end Go.Proofs.YtphnfcgdpdimbaaGreatDoor

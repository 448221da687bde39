/-
  dolmenref06.Part, dolmenref13.Parts, Named, Under: they say what PathLaw says. Conditions: a path is shorter than 2147483648 bytes.
-/
import Derived.Test.YtcednfmkiaelnaaGreatDoorTKitX
import Derived.Test.YtcednfmkiaelnaaGreatDoorTKitW
namespace Go.Proofs.YtcednfmkiaelnaaGreatDoor
open Go.RowKit
open PathLaw (pc under)
theorem byte_none {s : List UInt8} {c : UInt8} : Lib.indexByte s c < 0 ↔ ∀ k : Nat, s[k]? ≠ some c := by
 have hge := Lib.indexByte_ge s c
 constructor
 ·intro h
  exact Lib.indexByte_none (by omega)
 ·intro h
  rcases Int.lt_or_le (Lib.indexByte s c) 0 with h0 | h0
  ·exact h0
  ·obtain ⟨o, ho⟩ := Int.eq_ofNat_of_zero_le h0
   exact absurd (Lib.indexByte_some ho).1 (h o)
theorem part_not {s : List UInt8} {k : Nat} {x : UInt8} (hx : s[k]? = some x) (h : x = 0 ∨ x = 47) : PathLaw.part s = false := by
 unfold PathLaw.part
 rcases h with rfl | rfl
 ·have := mt byte_none.1 (fun h => h k hx)
  simp [this]
 ·have := mt byte_none.1 (fun h => h k hx)
  simp [this]
theorem part_all {s : List UInt8} (h : ∀ (j : Nat) x, j < s.length → s[j]? = some x → x ≠ 0 ∧ x ≠ 47) : PathLaw.part s = (decide (1 ≤ s.length) && (decide (s.length ≤ 100) && (!decide (s = [46]) && !decide (s = [46, 46])))) := by
 have h1 : Lib.indexByte s 47 < 0 := byte_none.2 (fun k hk => (h k _ (List.getElem?_eq_some_iff.1 hk).1 hk).2 rfl)
 have h2 : Lib.indexByte s 0 < 0 := byte_none.2 (fun k hk => (h k _ (List.getElem?_eq_some_iff.1 hk).1 hk).1 rfl)
 unfold PathLaw.part
 simp [h1, h2]
set_option maxHeartbeats 1000000 in
set_option maxRecDepth 100000 in
theorem rpart_any (s : List UInt8) (w : World) (hs : s.length ≤ 2147483648) :
  Calls Tryz.prog 35 #[S s] w fun e w' => e = .returned (.bool (PathLaw.part s)) ∧ w = w' := by
 go_enter Tryz.func35, Tryz.ntmps35
 go_wp2
 go_loop [3] (fun i => ∃ k : Nat, i = .int .i64 k ∧ k ≤ s.length ∧ Hid (∀ (j : Nat) x, j < k → s[j]? = some x → x ≠ 0 ∧ x ≠ 47)) (fun i => s.length - (intOf i).toNat)
 case atStart => exact ⟨0, rfl, Nat.zero_le _, Lib.hid (fun j x h => absurd h (Nat.not_lt_zero j))⟩
 case round =>
  obtain ⟨k, rfl, hk, ha⟩ := hrel
  by_cases hlt : k < s.length
  ·have Hx : Hid (s[k]? = some s[k]) := Lib.hid (List.getElem?_eq_getElem hlt)
   obtain ⟨n, hn⟩ : ∃ n : Nat, n = s[k].toNat := ⟨_, rfl⟩
   have hb : ((⟨s.toArray⟩ : ByteArray)[k]'(by rw [size_mk]; exact hlt)).toNat = n := hn.symm
   have Hn := Lib.hid hn
   clear hn
   by_cases h0 : n = 0
   ·subst h0
    go_wp2
    go_ret
    exact ⟨ret_bool (part_not Hx.out (.inl (UInt8.toNat_inj.1 Hn.out.symm))).symm, rfl⟩
   ·by_cases h1 : n = 47
    ·subst h1
     go_wp2
     go_ret
     exact ⟨ret_bool (part_not Hx.out (.inr (UInt8.toNat_inj.1 Hn.out.symm))).symm, rfl⟩
    ·have n0 : s[k] ≠ 0 := fun e => h0 (by rw [Hn.out, e]; rfl)
     have n1 : s[k] ≠ 47 := fun e => h1 (by rw [Hn.out, e]; rfl)
     have Ha : Hid (∀ (j : Nat) x, j < k + 1 → s[j]? = some x → x ≠ 0 ∧ x ≠ 47) := Lib.hid (fun j x hj hx => by
      rcases Nat.lt_or_ge j k with h1 | h1
      ·exact ha.out j x h1 hx
      ·obtain rfl : j = k := by omega
       rw [Hx.out] at hx
       cases hx
       exact ⟨n0, n1⟩)
     have b0 : ((n : Int) == 0) = false := by simp only [beq_eq_false_iff_ne, ne_eq]; exact fun e => h0 (Int.ofNat.inj e)
     have b1 : ((n : Int) == 47) = false := by simp only [beq_eq_false_iff_ne, ne_eq]; exact fun e => h1 (Int.ofNat.inj e)
     clear n0 n1
     go_wp2
     go_round
     case rel => exact ⟨k + 1, by go_num, hlt, Ha⟩
     case measure => simp [intOf]; omega
  ·obtain rfl : k = s.length := by omega
   have hp := Lib.hid (part_all ha.out)
   clear ha
   go_wp2
   all_goals
    go_ret
    refine ⟨ret_bool ?_, rfl⟩
    have hq := hp.out
    clear hp
    grind
theorem strs_snoc9 (l : List (List UInt8)) (u : List UInt8) : strs (l ++ [u]) = strs l ++ [S u] := by simp [strs]
def glue (u : List UInt8) : List (List UInt8) → List (List UInt8)
 | [] => [u]
 | y :: r => (u ++ y) :: r
theorem pc_slash {s : List UInt8} {k : Nat} (h : s[k]? = some 47) : pc (s.drop k) = [] :: pc (s.drop (k + 1)) := by
 obtain ⟨hk, hx⟩ := List.getElem?_eq_some_iff.1 h
 rw [List.drop_eq_getElem_cons hk, hx]
 conv => lhs; unfold pc
 simp
theorem pc_other {s : List UInt8} {k : Nat} {x : UInt8} (h : s[k]? = some x) (hx : x ≠ 47) (u : List UInt8) : glue u (pc (s.drop k)) = glue (u ++ [x]) (pc (s.drop (k + 1))) := by
 obtain ⟨hk, hx'⟩ := List.getElem?_eq_some_iff.1 h
 rw [List.drop_eq_getElem_cons hk, hx']
 conv => lhs; unfold pc
 rw [if_neg hx]
 have hn := PathLaw.pc_ne (s.drop (k + 1))
 split
 ·rename_i e; exact absurd e hn
 ·rename_i y r e; simp [glue, e]
def Upto (s : List UInt8) (o : List (List UInt8)) (k f : Nat) : Prop := (k = s.length + 1 ∧ o = pc s) ∨ (k ≤ s.length ∧ f ≤ k ∧ pc s = o ++ glue ((s.drop f).take (k - f)) (pc (s.drop k)))
theorem Upto.start (s : List UInt8) : Upto s [] 0 0 := .inr ⟨Nat.zero_le _, Nat.le_refl _, by
 have hn := PathLaw.pc_ne s
 simp only [List.nil_append, List.drop_zero, Nat.sub_self, List.take_zero]
 cases h : pc s with
 | nil => exact absurd h hn
 | cons y r => rfl⟩
theorem Upto.le {s : List UInt8} {o : List (List UInt8)} {k f : Nat} (h : Upto s o k f) (hk : k ≤ s.length) : f ≤ k := by
 rcases h with ⟨h, _⟩ | ⟨_, h, _⟩
 ·omega
 ·exact h
theorem Upto.slash {s : List UInt8} {o : List (List UInt8)} {k f : Nat} (h : Upto s o k f) (hx : s[k]? = some 47) : Upto s (o ++ [(s.drop f).take (k - f)]) (k + 1) (k + 1) := by
 have hk := (List.getElem?_eq_some_iff.1 hx).1
 rcases h with ⟨h, _⟩ | ⟨_, hf, h⟩
 ·omega
 ·refine .inr ⟨hk, Nat.le_refl _, ?_⟩
  rw [h, pc_slash hx]
  have hn := PathLaw.pc_ne (s.drop (k + 1))
  cases e : pc (s.drop (k + 1)) with
  | nil => exact absurd e hn
  | cons y r => simp [glue]
theorem Upto.end_ {s : List UInt8} {o : List (List UInt8)} {f : Nat} (h : Upto s o s.length f) : Upto s (o ++ [(s.drop f).take (s.length - f)]) (s.length + 1) (s.length + 1) := by
 rcases h with ⟨h, _⟩ | ⟨_, hf, h⟩
 ·omega
 ·refine .inl ⟨rfl, ?_⟩
  rw [h]
  simp [glue, pc]
theorem Upto.other {s : List UInt8} {o : List (List UInt8)} {k f : Nat} {x : UInt8} (h : Upto s o k f) (hx : s[k]? = some x) (hn : x ≠ 47) : Upto s o (k + 1) f := by
 have hk := (List.getElem?_eq_some_iff.1 hx).1
 rcases h with ⟨h, _⟩ | ⟨_, hf, h⟩
 ·omega
 ·refine .inr ⟨hk, by omega, ?_⟩
  rw [h, pc_other hx hn]
  congr 2
  rw [show k + 1 - f = (k - f) + 1 by omega, List.take_add_one, List.getElem?_drop, show f + (k - f) = k by omega, hx]
  rfl
theorem Upto.full {s : List UInt8} {o : List (List UInt8)} {f : Nat} (h : Upto s o (s.length + 1) f) : o = pc s := by
 rcases h with ⟨_, h⟩ | ⟨h, _⟩
 ·exact h
 ·omega
set_option maxHeartbeats 2000000 in
set_option maxRecDepth 100000 in
theorem parts_any (s : List UInt8) (w : World) (hs : s.length ≤ 2147483648) :
  Calls Tryz.prog 34 #[S s] w fun e w' => ∃ (A : Option Addr) (n c : Nat), e = .returned (.slice A n c) ∧ Ow w w' 9 1 A n c (strs (pc s)) := by
 obtain ⟨i0, hi0, hi1, hi2, hi3⟩ := info_parts Tryz.infoStr
 go_enter Tryz.func34, Tryz.ntmps34
 go_wp2
 go_loopw [3, 4, 5] (fun o fr i wr => ∃ (k f co t : Nat) (Ao : Option Addr) (l : List (List UInt8)), i = .int .i64 k ∧ fr = .int .i64 f ∧ o = .slice Ao t co ∧ Hid (k ≤ s.length + 1) ∧ Hid (t ≤ k) ∧ Hid (Upto s l k f) ∧ Hid (Ow w wr 9 1 Ao t co (strs l))) (fun _ _ i _ => s.length + 1 - (intOf i).toNat)
 case atStart => exact ⟨0, 0, 0, 0, none, [], rfl, rfl, rfl, Lib.hid (Nat.zero_le _), Lib.hid (Nat.le_refl _), Lib.hid (Upto.start s), Lib.hid (Ow.nil_ (Below.refl _ _))⟩
 case round =>
  obtain ⟨k, f, co, t, Ao, l, rfl, rfl, rfl, hk, ht, hU, hO⟩ := hrel
  by_cases hle : k ≤ s.length
  ·have hfk := hU.out.le hle
   have q0 : t ≤ 2147483648 := by have := ht.out; omega
   have q1 : t + 1 ≤ maxLen := by simp only [maxLen]; omega
   have q2 : (t + 1) * 16 ≤ 140737488355328 := by omega
   have HS6 := Lib.hid (sl_one wr 9 (S ((s.drop f).take (k - f))))
   have HO6 := Lib.hid (hO.out.alloc (.cells #[S ((s.drop f).take (k - f))] 9))
   by_cases hlt : k < s.length
   ·have Hx : Hid (s[k]? = some s[k]) := Lib.hid (List.getElem?_eq_getElem hlt)
    by_cases h47 : s[k] = 47
    ·have hb : ((⟨s.toArray⟩ : ByteArray)[k]'(by rw [size_mk]; exact hlt)).toNat = 47 := by show s[k].toNat = 47; rw [h47]; rfl
     have hne : ((k : Int) == (s.length : Int)) = false := by simp; omega
     have he : (⟨s.toArray⟩ : ByteArray).extract f k = ⟨((s.drop f).take (k - f)).toArray⟩ := extract_mk s f k
     go_wp2_with (at_builtin; refine wpList_append_sl _ rfl (.tmp 22) (.tmp 27) _ rfl w 9 i0 _ 1 16 Tryz.underlying45 hi0 hi1 hi2 hi3 rfl (by decide) Ao t co _ rfl HO6.out _ 1 1 [S ((s.drop f).take (k - f))] rfl HS6.out (one_one rfl) q1 q2 ?_; intro A5 c5 w5 hO5 hg5 hat5; have HO5 := Lib.hid hO5; clear hO5 hg5 hat5)
     go_roundw
     case rel => exact ⟨k + 1, k + 1, c5, t + 1, A5, l ++ [(s.drop f).take (k - f)], by go_num, by go_num, rfl, Lib.hid (by omega), Lib.hid (by have := ht.out; omega), Lib.hid (hU.out.slash (by rw [Hx.out, h47])), Lib.hid (by rw [strs_snoc9]; exact HO5.out)⟩
     case measure => simp [intOf]; omega
    ·have hb : ((((⟨s.toArray⟩ : ByteArray)[k]'(by rw [size_mk]; exact hlt)).toNat : Int) == 47) = false := by
      simp only [beq_eq_false_iff_ne, ne_eq]
      exact fun e => h47 (UInt8.toNat_inj.1 (Int.ofNat.inj e))
     have hne : ((k : Int) == (s.length : Int)) = false := by simp; omega
     go_wp2
     go_roundw
     case rel => exact ⟨k + 1, f, co, t, Ao, l, by go_num, rfl, rfl, Lib.hid (by omega), Lib.hid (by have := ht.out; omega), Lib.hid (hU.out.other Hx.out h47), hO⟩
     case measure => simp [intOf]; omega
   ·obtain rfl : k = s.length := by omega
    have he : (⟨s.toArray⟩ : ByteArray).extract f s.length = ⟨((s.drop f).take (s.length - f)).toArray⟩ := extract_mk s f s.length
    go_wp2_with (at_builtin; refine wpList_append_sl _ rfl (.tmp 22) (.tmp 27) _ rfl w 9 i0 _ 1 16 Tryz.underlying45 hi0 hi1 hi2 hi3 rfl (by decide) Ao t co _ rfl HO6.out _ 1 1 [S ((s.drop f).take (s.length - f))] rfl HS6.out (one_one rfl) q1 q2 ?_; intro A5 c5 w5 hO5 hg5 hat5; have HO5 := Lib.hid hO5; clear hO5 hg5 hat5)
    go_roundw
    case rel => exact ⟨s.length + 1, s.length + 1, c5, t + 1, A5, l ++ [(s.drop f).take (s.length - f)], by go_num, by go_num, rfl, Lib.hid (by omega), Lib.hid (by have := ht.out; omega), Lib.hid hU.out.end_, Lib.hid (by rw [strs_snoc9]; exact HO5.out)⟩
    case measure => simp [intOf]
  ·obtain rfl : k = s.length + 1 := by have := hk.out; omega
   have hf := hU.out.full
   subst hf
   go_wp2
   go_ret
   exact ⟨Ao, t, co, rfl, hO.out⟩
theorem pc_part_len : ∀ (s y : List UInt8), y ∈ pc s → y.length ≤ s.length
 | [], y, h => by simp [pc] at h; simp [h]
 | x :: b, y, h => by
  unfold pc at h
  split at h
  ·rcases List.mem_cons.1 h with rfl | h
   ·simp
   ·have := pc_part_len b y h
    simp; omega
  ·split at h
   ·simp at h; subst h; simp
   ·rename_i z r e
    rcases List.mem_cons.1 h with rfl | h
    ·have := pc_part_len b z (by rw [e]; simp)
     simpa using this
    ·have := pc_part_len b y (by rw [e]; simp [h])
     simp; omega
set_option maxHeartbeats 1000000 in
set_option maxRecDepth 100000 in
theorem rnamed_any (s : List UInt8) (w : World) (hs : s.length ≤ 2147483648) :
  Calls Tryz.prog 12 #[S s] w fun e w' => e = .returned (.bool (PathLaw.named s)) ∧ Below w.heap.size w w' := by
 have C1 := Lib.hid (parts_any s w hs)
 have hl := PathLaw.pc_len s
 have HL := Lib.hid (pc_part_len s)
 obtain ⟨P, hP⟩ : ∃ P, P = pc s := ⟨_, rfl⟩
 have HP := Lib.hid hP
 rw [← hP] at C1 hl HL
 clear hP
 go_enter Tryz.func12, Tryz.ntmps12
 go_wp2_with (go_at_call 34; refine C1.out.mono ?_; rintro e w1 ⟨A, n, c, rfl, hO⟩; have HO := Lib.hid hO; clear hO)
 have hn : P.length = n := by simpa using HO.out.sl.len
 subst hn
 go_loopw [4] (fun i wr => ∃ k : Nat, i = .int .i64 k ∧ k ≤ P.length ∧ Hid ((P.take k).all PathLaw.part = true) ∧ w1 = wr) (fun i _ => P.length - (intOf i).toNat)
 case atStart => exact ⟨0, rfl, Nat.zero_le _, Lib.hid rfl, rfl⟩
 case round =>
  obtain ⟨k, rfl, hk, ha, rfl⟩ := hrel
  by_cases hlt : k < P.length
  ·obtain ⟨b, off, x, e1, hx, hc⟩ := HO.out.sl.str hlt
   subst e1
   have hxl : x.length ≤ 2147483648 := Nat.le_trans (HL.out x (List.mem_of_getElem? hx)) hs
   have Hx := Lib.hid hx
   clear hx
   cases hp : PathLaw.part x with
   | true =>
    have C2 := rpart_any x
    rw [hp] at C2
    have C3 := Lib.hid C2
    have Hp := Lib.hid hp
    clear C2 hp
    go_wp2_with (go_at_call 35; refine (C3.out _ hxl).mono ?_; rintro e w' ⟨rfl, rfl⟩)
    go_roundw
    case rel => exact ⟨k + 1, by go_num, hlt, Lib.hid (all_take_succ ha.out Hx.out Hp.out), trivial⟩
    case measure => simp [intOf]; omega
   | false =>
    have C2 := rpart_any x
    rw [hp] at C2
    have C3 := Lib.hid C2
    have Hp := Lib.hid hp
    clear C2 hp
    go_wp2_with (go_at_call 35; refine (C3.out _ hxl).mono ?_; rintro e w' ⟨rfl, rfl⟩)
    go_ret
    refine ⟨ret_bool ?_, HO.out.2⟩
    unfold PathLaw.named
    rw [← HP.out, all_not Hx.out Hp.out]
    rfl
  ·obtain rfl : k = P.length := by omega
   have ha2 : Hid (P.all PathLaw.part = true) := by
    have := ha.out
    rwa [List.take_length] at this
   clear hlt
   go_wp2
   all_goals
    go_ret
    refine ⟨ret_bool ?_, HO.out.2⟩
    unfold PathLaw.named
    rw [← HP.out, ha2.out]
    clear C1 HP HL HO ha2 ha
    grind
theorem under_eq (p d : List UInt8) : under p d = (decide (d.length < p.length) && (decide (p.take d.length = d) && decide (p[d.length]? = some 47))) := by
 rw [Bool.eq_iff_iff, PathLaw.under_iff]
 simp only [Bool.and_eq_true, decide_eq_true_eq]
 constructor
 ·rintro ⟨r, rfl⟩
  simp
 ·rintro ⟨h1, h2, h3⟩
  refine ⟨p.drop (d.length + 1), ?_⟩
  obtain ⟨h4, h5⟩ := List.getElem?_eq_some_iff.1 h3
  conv => lhs; rw [← List.take_append_drop d.length p, h2, List.drop_eq_getElem_cons h4, h5]
set_option maxHeartbeats 1000000 in
set_option maxRecDepth 100000 in
theorem runder_any (p d : List UInt8) (w : World) (hp : p.length ≤ maxLen) :
  Calls Tryz.prog 14 #[S p, S d] w fun e w' => e = .returned (.bool (under p d)) ∧ w = w' := by
 have hpl : p.length ≤ 9223372036854775807 := Nat.le_trans hp (by decide)
 have HU := Lib.hid (under_eq p d)
 clear hp
 by_cases h1 : d.length < p.length
 ·have he : (⟨p.toArray⟩ : ByteArray).extract 0 d.length = ⟨(p.take d.length).toArray⟩ := by simpa using extract_mk p 0 d.length
  have Hx : Hid (p[d.length]? = some p[d.length]) := Lib.hid (List.getElem?_eq_getElem h1)
  obtain ⟨n, hn⟩ : ∃ n : Nat, n = p[d.length].toNat := ⟨_, rfl⟩
  have hb : ((⟨p.toArray⟩ : ByteArray)[d.length]'(by rw [size_mk]; exact h1)).toNat = n := hn.symm
  have E3 : Hid (decide (p[d.length]? = some 47) = ((n : Int) == 47)) := Lib.hid (by
   rw [Hx.out, hn, Bool.eq_iff_iff]
   simp only [decide_eq_true_eq, Option.some.injEq, beq_iff_eq]
   exact ⟨fun e => by rw [e]; rfl, fun e => UInt8.toNat_inj.1 (Int.ofNat.inj e)⟩)
  clear hn Hx
  go_enter Tryz.func14, Tryz.ntmps14
  go_wp2
  all_goals
   go_ret
   refine ⟨ret_bool ?_, rfl⟩
   rw [HU.out, E3.out]
   clear HU E3
   grind
 ·go_enter Tryz.func14, Tryz.ntmps14
  go_wp2
  go_ret
  refine ⟨ret_bool ?_, rfl⟩
  rw [HU.out]
  simp [h1]
end Go.Proofs.YtcednfmkiaelnaaGreatDoor

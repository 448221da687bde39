/-
  Texts merged: Code, LawId. What each law says and asks stands at its head.
-/
import Derived.Test.YtcednfmkiaelnaaGreatDoorTKitW
import Derived.Lib.AppendStr
import Derived.BigQuiet
namespace Go.Proofs.YtcednfmkiaelnaaGreatDoor
open Go.RowKit
theorem strCells_mk (l : List UInt8) : Lib.strCells ⟨l.toArray⟩ = u8s l := by simp [Lib.strCells]
theorem wpList_append_text {P : Program} (w : World) {ops : Array Oper} {rest : List Oper} {o : Oper} {a : Act} {Q : Exit → Act → World → Prop} (hgd : o.guard = none) (sl x : Operand) (t u : TypeId)
  (ho : o.op = .call { callee := .builtin .append, args := #[sl, x], argTypes := #[t, u] })
  (w0 : World) (e : TypeId) (i : TypeInfo) (ht : P.underlying t = some (.slice e)) (hu : P.underlying u = some .string) (hi : P.info? e = some i) (hz : i.zero = some (.int .u8 0))
  (hsize : i.size = 1) (hby : i.bytes = 1)
  (Ad : Option Addr) (n cd : Nat) (xs : List Value) (hs : a.eval sl = .slice Ad n cd) (hown : Ow w0 w e 1 Ad n cd xs) (s : List UInt8) (hx : a.eval x = S s)
  (hbytes : n + s.length ≤ 140737488355328)
  (h : ∀ A' c' w', Ow w0 w' e 1 A' (n + s.length) c' (xs ++ u8s s) → w.grownBy w' (Value.slice Ad n cd).ownBlock → wpList P ops Q rest (a.put o.dst (.slice A' (n + s.length) c')) w') : wpList P ops Q (o :: rest) a w := by
 refine Lib.wpList_append_own_string w hgd sl x t u ho w0.heap.size e i ht hu hi hz hsize hby _ n xs hs hown.1 ⟨s.toArray⟩ hx (by rw [size_mk]; simp only [maxLen]; omega) (by rw [size_mk]; exact hbytes) hown.2.size ?_
 intro v' w' h2 h3 _
 rw [size_mk, strCells_mk] at h2
 obtain ⟨A', c', rfl⟩ := own_shape h2
 exact h A' c' w' ⟨h2, hown.2.grown h3 hown.2.size (fun k hk => (hown.1.lt k hk).1)⟩ h3
theorem or128_fin : ∀ m : Fin 256, bits BinOp.or IntKind.u8 ((m.val : Nat) : Int) 128 = ((128 + m.val % 128 : Nat) : Int) := by decide +kernel
theorem or128 (y : Nat) : bits BinOp.or IntKind.u8 ((y : Int) % 256) 128 = ((UInt8.ofNat (128 + y % 128)).toNat : Int) := by
 have h := or128_fin ⟨y % 256, Nat.mod_lt _ (by omega)⟩
 have e : ((y % 256 : Nat) : Int) = (y : Int) % 256 := by omega
 simp only [e] at h
 rw [h, toNat_ofNat_lt (by omega)]
 omega
theorem u8s_snoc (l : List UInt8) (y : Nat) (h : y < 256) : u8s l ++ [.int .u8 (y : Int)] = u8s (l ++ [UInt8.ofNat y]) := by
 have e := toNat_ofNat_lt h
 simp only [u8s, List.map_append, List.map_cons, List.map_nil, U8, e]
def RetB (w : World) (l : List UInt8) (e : Ending) (w' : World) : Prop := ∃ A m c, e = .returned (.slice A m c) ∧ Ow w w' 5 1 A m c (u8s l)
theorem u8s_len {w : World} {A : Option Addr} {n : Nat} {l : List UInt8} (h : Sl w 1 A n (u8s l)) : l.length = n := by simpa using h.len
theorem ow_len {w0 w : World} {e : TypeId} {A : Option Addr} {n c : Nat} {l : List UInt8} (h : Ow w0 w e 1 A n c (u8s l)) : l.length = n := u8s_len h.sl
set_option maxHeartbeats 400000 in
theorem cloneB_any (A : Option Addr) (n c : Nat) (l : List UInt8) (w : World) (hA : Sl w 1 A n (u8s l)) (hn : n ≤ 140737488355328) :
  Calls Tryz.prog 99 #[.slice A n c] w (RetB w l) := by
 obtain ⟨i0, hi0, hz0, hz1, hz2⟩ := info_parts Tryz.infoU8
 have hm : n ≤ maxLen := by simp only [maxLen]; omega
 have hnil := fun (W : World) (a : Option Addr) => Lib.run_eql_slice_nil (P := Tryz.prog) W 38 5 a n c 0 0 Tryz.underlying38
 rcases A with _ | a
 ·have hn0 : n = 0 := by
   rcases Nat.eq_zero_or_pos n with h0 | h0
   ·exact h0
   ·obtain ⟨_, _, h, _⟩ := hA.2 h0
    cases h
  subst hn0
  go_enter Tryz.func99, Tryz.ntmps99
  go_wp2
  go_ret
  obtain rfl : l = [] := List.eq_nil_of_length_eq_zero (u8s_len hA)
  exact ⟨none, 0, 0, rfl, Ow.nil_ (Below.refl _ _)⟩
 ·have ho : Ow w (w.alloc (.cells #[] 5)) 5 1 (some ⟨w.heap.size, 0, none⟩) 0 0 [] := ⟨World.ownsRow_made _ #[] 0 (Nat.le_refl _) (Nat.zero_le _) rfl, (Below.refl _ _).alloc (Nat.le_refl _) _⟩
  have hs := hA.alloc (.cells #[] 5)
  have hm' : 0 + n ≤ maxLen := by omega
  have hn' : (0 + n) * 1 ≤ 140737488355328 := by omega
  go_enter Tryz.func99, Tryz.ntmps99
  go_wp2_with (at_builtin; refine wpList_append_sl _ rfl (.tmp 5) (.tmp 6) _ rfl w 5 i0 _ 1 1 Tryz.underlying38 hi0 hz0 hz1 hz2 rfl Nat.one_pos _ _ _ _ rfl ho (some a) n c (u8s l) rfl hs (one_u8s l) hm' hn' ?_; intro A' c' w1 hown1 hg1 hat1)
  go_ret
  exact ⟨A', 0 + n, c', by simp, hown1⟩
set_option maxHeartbeats 400000 in
theorem laidB_any (A A' : Option Addr) (n c n' c' : Nat) (l l' : List UInt8) (w : World) (hA : Sl w 1 A n (u8s l)) (hA' : Sl w 1 A' n' (u8s l')) (hn : n + n' ≤ 140737488355328) :
  Calls Tryz.prog 278 #[.slice A n c, .slice A' n' c'] w (RetB w (l ++ l')) := by
 obtain ⟨i0, hi0, hz0, hz1, hz2⟩ := info_parts Tryz.infoU8
 have hm : n + n' ≤ maxLen := by simp only [maxLen]; omega
 have hl := Lib.hid (u8s_len hA)
 go_enter Tryz.func278, Tryz.ntmps278
 go_wp2_with fail
 refine (cloneB_any A n c l _ hA (by omega)).mono ?_
 rintro e w1 ⟨A1, m, c1, rfl, ho⟩
 obtain rfl : m = n := (ow_len ho).symm.trans hl.out
 have hs := hA'.below ho.2
 have hn' : (m + n') * 1 ≤ 140737488355328 := by omega
 go_wp2_with (at_builtin; refine wpList_append_sl _ rfl (.tmp 6) (.tmp 7) _ rfl w 5 i0 _ 1 1 Tryz.underlying38 hi0 hz0 hz1 hz2 rfl Nat.one_pos _ _ _ _ rfl ho A' n' c' (u8s l') rfl hs (one_u8s l') hm hn' ?_; intro A2 c2 w2 hown2 hg2 hat2)
 go_ret
 exact ⟨A2, m + n', c2, rfl, by simpa using hown2⟩
set_option maxHeartbeats 400000 in
theorem laidS_any (A : Option Addr) (n c : Nat) (l l' : List UInt8) (w : World) (hA : Sl w 1 A n (u8s l)) (hn : n + l'.length ≤ 140737488355328) :
  Calls Tryz.prog 323 #[.slice A n c, S l'] w (RetB w (l ++ l')) := by
 obtain ⟨i0, hi0, hz0, hz1, hz2⟩ := info_parts Tryz.infoU8
 have hl := Lib.hid (u8s_len hA)
 go_enter Tryz.func323, Tryz.ntmps323
 go_wp2_with fail
 refine (cloneB_any A n c l _ hA (by omega)).mono ?_
 rintro e w1 ⟨A1, m, c1, rfl, ho⟩
 obtain rfl : m = n := (ow_len ho).symm.trans hl.out
 go_wp2_with (at_builtin; refine wpList_append_text _ rfl (.tmp 6) (.tmp 7) _ _ rfl w 5 i0 Tryz.underlying38 Tryz.underlying9 hi0 hz0 hz1 hz2 _ _ _ _ rfl ho l' rfl hn ?_; intro A2 c2 w2 hown2 hg2)
 go_ret
 exact ⟨A2, m + l'.length, c2, rfl, by simpa using hown2⟩
set_option maxHeartbeats 400000 in
set_option maxRecDepth 100000 in
theorem putNum_nat (A : Option Addr) (n c x : Nat) (l : List UInt8) (w : World) (hA : Sl w 1 A n (u8s l)) (hn : n + 9 ≤ 140737488355328) (hx : x < 4611686018427387904) :
  Calls Tryz.prog 222 #[.slice A n c, I x] w (RetB w (l ++ putNum x)) := by
 obtain ⟨i0, hi0, hz0, hz1, hz2⟩ := info_parts Tryz.infoU8
 go_enter Tryz.func222, Tryz.ntmps222
 go_wp2
 go_loopw [1, 5] (fun i v wr => ∃ (y k : Nat) (A' : Option Addr) (c' : Nat) (l' : List UInt8), y ≤ x ∧ i = .int .i64 y ∧ v = .slice A' k c' ∧ Ow w wr 5 1 A' k c' (u8s l') ∧ l' ++ putNum y = putNum x) (fun i _ _ => (intOf i).toNat)
 case atStart => exact ⟨x, 0, none, 0, [], Nat.le_refl _, rfl, rfl, Ow.nil_ (Below.refl _ _), rfl⟩
 case round =>
  obtain ⟨y, k, A', c', l', hy, rfl, rfl, hO, hp⟩ := hrel
  have hk9 : k + 1 ≤ 9 := by
   have h3 := putNum_len_pos y
   have h1 := congrArg List.length hp
   rw [List.length_append, ow_len hO] at h1
   have h2 := putNum_len_le (n := x) hx
   omega
  have Hp := Lib.hid hp
  clear hp
  have hm' : k + 1 ≤ maxLen := by simp only [maxLen]; omega
  have hn' : (k + 1) * 1 ≤ 140737488355328 := by omega
  by_cases hlt : 128 ≤ y
  ·obtain ⟨z, hz⟩ : ∃ z : UInt8, z = UInt8.ofNat (128 + y % 128) := ⟨_, rfl⟩
   have hor : bits BinOp.or IntKind.u8 ((y : Int) % 256) 128 = (z.toNat : Int) := by rw [hz]; exact or128 y
   have Hz := Lib.hid hz
   clear hz
   have ho := hO.alloc (.cells #[U8 z] 5)
   go_wp2_with (at_builtin; refine wpList_append_sl _ rfl (.tmp 13) (.tmp 17) _ rfl w 5 i0 _ 1 1 Tryz.underlying38 hi0 hz0 hz1 hz2 rfl Nat.one_pos _ _ _ _ rfl ho _ 1 1 [U8 z] rfl (sl_one _ _ _) (one_one rfl) hm' hn' ?_; intro A2 c2 w2 hown2 hg2 hat2)
   go_roundw
   case rel => exact ⟨y / 128, k + 1, A2, c2, l' ++ [z], by omega, by go_num, rfl, by simpa using hown2, by rw [List.append_assoc, List.singleton_append, Hz.out, ← putNum_ge hlt]; exact Hp.out⟩
   case measure => simp [intOf]; omega
  ·have ho := hO.alloc (.cells #[.int .u8 (y : Int)] 5)
   go_wp2_with (at_builtin; refine wpList_append_sl _ rfl (.tmp 20) (.tmp 23) _ rfl w 5 i0 _ 1 1 Tryz.underlying38 hi0 hz0 hz1 hz2 rfl Nat.one_pos _ _ _ _ rfl ho _ 1 1 [.int .u8 (y : Int)] rfl (sl_one _ _ _) (one_one rfl) hm' hn' ?_; intro A2 c2 w2 hown2 hg2 hat2)
   have e1 : u8s l' ++ [.int .u8 (y : Int)] = u8s (putNum x) := by
    rw [← Hp.out, putNum_lt (by omega)]; exact u8s_snoc l' y (by omega)
   rw [e1] at hown2
   refine (laidB_any A A2 n c (k + 1) c2 l (putNum x) _ (hA.below hown2.2) hown2.sl (by omega)).mono ?_
   rintro e w3 ⟨A3, m3, c3, rfl, ho3⟩
   go_wp2
   go_ret
   exact ⟨A3, m3, c3, rfl, ho3.since hown2.2⟩
set_option maxHeartbeats 400000 in
theorem putText_any (A : Option Addr) (n c : Nat) (l s : List UInt8) (w : World) (hA : Sl w 1 A n (u8s l)) (hn : n + 9 + s.length ≤ 140737488355328) :
  Calls Tryz.prog 322 #[.slice A n c, S s] w (RetB w (l ++ (putNum s.length ++ s))) := by
 have hl := Lib.hid (u8s_len hA)
 go_enter Tryz.func322, Tryz.ntmps322
 go_wp2_with fail
 refine (putNum_nat A n c s.length l _ hA (by omega) (by omega)).mono ?_
 rintro e w1 ⟨A1, m, c1, rfl, ho⟩
 have hm : m ≤ n + 9 := by
  have h1 := ow_len ho
  rw [List.length_append, hl.out] at h1
  have h2 := putNum_len_le (n := s.length) (by unfold top62; omega)
  omega
 go_wp2_with fail
 refine (laidS_any A1 m c1 _ s _ ho.sl (by omega)).mono ?_
 rintro e w2 ⟨A2, m2, c2, rfl, ho2⟩
 go_wp2
 go_ret
 exact ⟨A2, m2, c2, rfl, by rw [← List.append_assoc]; exact ho2.since ho.2⟩
set_option maxHeartbeats 400000 in
set_option maxRecDepth 100000 in
theorem refPutNum_nat (A : Option Addr) (n c x : Nat) (l : List UInt8) (w : World) (hA : Sl w 1 A n (u8s l)) (hn : n + 9 ≤ 140737488355328) (hx : x < 4611686018427387904) :
  Calls Tryz.prog 120 #[.slice A n c, I x] w (RetB w (l ++ putNum x)) := by
 obtain ⟨i0, hi0, hz0, hz1, hz2⟩ := info_parts Tryz.infoU8
 have hl := Lib.hid (u8s_len hA)
 have hm0 : 0 + n ≤ maxLen := by simp only [maxLen]; omega
 have hn0 : (0 + n) * 1 ≤ 140737488355328 := by omega
 have hon : Ow w w 5 1 none 0 0 [] := Ow.nil_ (Below.refl _ _)
 go_enter Tryz.func120, Tryz.ntmps120
 go_wp2_with (at_builtin; refine wpList_append_sl _ rfl (.tmp 9) (.tmp 10) _ rfl w 5 i0 _ 1 1 Tryz.underlying38 hi0 hz0 hz1 hz2 rfl Nat.one_pos _ _ _ _ rfl hon _ n c _ rfl hA (one_u8s l) hm0 hn0 ?_; intro A0 c0 w0 hown0 hg0 hat0)
 rw [Nat.zero_add, List.nil_append] at hown0
 go_loopw [1, 5] (fun i v wr => ∃ (y k : Nat) (A' : Option Addr) (c' : Nat) (l' : List UInt8), y ≤ x ∧ i = .int .i64 y ∧ v = .slice A' k c' ∧ Ow w wr 5 1 A' k c' (u8s (l ++ l')) ∧ l' ++ putNum y = putNum x) (fun i _ _ => (intOf i).toNat)
 case atStart => exact ⟨x, n, A0, c0, [], Nat.le_refl _, rfl, rfl, by simpa using hown0, rfl⟩
 case round =>
  obtain ⟨y, k, A', c', l', hy, rfl, rfl, hO, hp⟩ := hrel
  have hk9 : k + 1 ≤ n + 9 := by
   have h3 := putNum_len_pos y
   have h1 := congrArg List.length hp
   have h4 := ow_len hO
   rw [List.length_append] at h1 h4
   rw [hl.out] at h4
   have h2 := putNum_len_le (n := x) hx
   omega
  have Hp := Lib.hid hp
  clear hp
  have hm' : k + 1 ≤ maxLen := by simp only [maxLen]; omega
  have hn' : (k + 1) * 1 ≤ 140737488355328 := by omega
  by_cases hlt : 128 ≤ y
  ·have e2 := Lib.hid (show (128 + (y : Int) % 128) = ((128 + y % 128 : Nat) : Int) by omega)
   have hlt2 : 0 ≤ (y : Int) % 128 ∧ (y : Int) % 128 < 128 := by omega
   have ho := hO.alloc (.cells #[.int .u8 (128 + (y : Int) % 128)] 5)
   go_wp2_with (at_builtin; refine wpList_append_sl _ rfl (.tmp 14) (.tmp 19) _ rfl w 5 i0 _ 1 1 Tryz.underlying38 hi0 hz0 hz1 hz2 rfl Nat.one_pos _ _ _ _ rfl ho _ 1 1 [.int .u8 (128 + (y : Int) % 128)] rfl (sl_one _ _ _) (one_one rfl) hm' hn' ?_; intro A2 c2 w2 hown2 hg2 hat2)
   rw [e2.out, u8s_snoc _ _ (by omega), List.append_assoc] at hown2
   go_roundw
   case rel => exact ⟨y / 128, k + 1, A2, c2, l' ++ [UInt8.ofNat (128 + y % 128)], by omega, by go_num, rfl, hown2, by rw [List.append_assoc, List.singleton_append, ← putNum_ge hlt]; exact Hp.out⟩
   case measure => simp [intOf]; omega
  ·have ho := hO.alloc (.cells #[.int .u8 (y : Int)] 5)
   go_wp2_with (at_builtin; refine wpList_append_sl _ rfl (.tmp 23) (.tmp 26) _ rfl w 5 i0 _ 1 1 Tryz.underlying38 hi0 hz0 hz1 hz2 rfl Nat.one_pos _ _ _ _ rfl ho _ 1 1 [.int .u8 (y : Int)] rfl (sl_one _ _ _) (one_one rfl) hm' hn' ?_; intro A2 c2 w2 hown2 hg2 hat2)
   rw [u8s_snoc _ _ (by omega), List.append_assoc, ← putNum_lt (by omega), Hp.out] at hown2
   go_ret
   exact ⟨A2, k + 1, c2, rfl, hown2⟩
set_option maxRecDepth 100000 in
set_option maxHeartbeats 2000000 in
theorem id13_any (c : UInt8) (w : World) :
  Calls Tryz.prog 25 #[U8 c] w fun e w' => e = .returned (S (List.replicate 32 c)) ∧ Below w.heap.size w w' := by
 obtain ⟨i0, hi0, hi1, hi2, hi3⟩ := info_parts Tryz.infoU8
 go_enter Tryz.func25, Tryz.ntmps25
 go_wp2
 go_loopw [3, 4] (fun o i wr => ∃ (k co : Nat) (Ao : Option Addr), i = .int .i64 k ∧ o = .slice Ao k co ∧ Hid (k ≤ 32) ∧ Hid (Ow w wr 5 1 Ao k co (u8s (List.replicate k c)))) (fun _ i _ => 32 - (intOf i).toNat)
 case atStart => exact ⟨0, 0, none, rfl, rfl, Lib.hid (by omega), Lib.hid (Ow.nil_ (Below.refl _ _))⟩
 case round =>
  obtain ⟨k, co, Ao, rfl, rfl, hk, hO⟩ := hrel
  by_cases hlt : k < 32
  ·have q1 : k + 1 ≤ maxLen := by simp only [maxLen]; omega
   have q2 : (k + 1) * 1 ≤ 140737488355328 := by omega
   have hd3 : decide ((k : Int) < 32) = true := by simp; omega
   have HS6 := Lib.hid (sl_one wr 5 (U8 c))
   have HO6 := Lib.hid (hO.out.alloc (.cells #[U8 c] 5))
   go_wp2_with (at_builtin; refine wpList_append_sl _ rfl (.tmp 9) (.tmp 11) _ rfl w 5 i0 _ 1 1 Tryz.underlying38 hi0 hi1 hi2 hi3 rfl (by decide) Ao k co _ rfl HO6.out _ 1 1 [U8 c] rfl HS6.out (one_one rfl) q1 q2 ?_; intro A5 c5 w5 hO5 hg5 hat5; have HO5 := Lib.hid hO5; clear hO5 hg5 hat5)
   go_roundw
   case rel => exact ⟨k + 1, c5, A5, by go_num, rfl, Lib.hid hlt, Lib.hid (by rw [List.replicate_succ']; have := HO5.out; simpa [u8s] using this)⟩
   case measure => simp [intOf]; omega
  ·obtain rfl : k = 32 := by have := hk.out; omega
   have hcv := run_conv_str (P := Tryz.prog) wr 38 9 5 Ao 32 co (List.replicate 32 c) Tryz.underlying38 Tryz.underlying5 Tryz.underlying9 hO.out.sl
   generalize hr : List.replicate 32 c = r at *
   have Hr := Lib.hid hr
   clear hr
   go_wp2
   go_ret
   exact ⟨by rw [Hr.out]; rfl, hO.out.2⟩
end Go.Proofs.YtcednfmkiaelnaaGreatDoor

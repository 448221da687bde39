/-
  Texts merged: RpPress1, RpPress, RpOpen. What each law says and asks stands at its head.
-/
import Derived.Test.YtphnfcgdpdimbaaGreatDoorRKitPr
namespace Go.Proofs.YtphnfcgdpdimbaaGreatDoor
open Go.RowKit
set_option maxHeartbeats 4000000 in
/-- how many bytes are the same -/
theorem ralike_any (A : Option Addr) (n c : Nat) (b : List UInt8) (k i : Nat) (w : World) (hA : Sl w 1 A n (u8s b)) (hk : k < i) (hi : i ≤ n) (hn : n ≤ 1000000000) :
  Calls Tryz.prog 336 #[.slice A n c, I k, I i] w fun e w' => ∃ m : Nat, e = .returned (I m) ∧ m ≤ 259 ∧ i + m ≤ n ∧ (∀ t, t < m → b.getD (k + t) 0 = b.getD (i + t) 0) ∧ ∃ j, w' = w.drewN j := by
 have HA := Lib.hid hA
 clear hA
 go_enter Tryz.func336, Tryz.ntmps336
 go_wp2
 go_loopw [7] (fun v wr => ∃ m j : Nat, v = .int .i64 m ∧ m ≤ 259 ∧ i + m ≤ n ∧ wr = w.drewN j ∧ Hid (∀ t, t < m → b.getD (k + t) 0 = b.getD (i + t) 0)) (fun v _ => 300 - (intOf v).toNat)
 case atStart => exact ⟨0, 0, rfl, by omega, by omega, rfl, Lib.hid (fun t ht => absurd ht (by omega))⟩
 case round =>
  obtain ⟨m, j, rfl, hm, him, rfl, HE⟩ := hrel
  have hways : decide ((m : Int) < 259) = false ∨ (decide ((m : Int) < 259) = true ∧ ¬ i + m < n) ∨ (decide ((m : Int) < 259) = true ∧ i + m < n) := by
   by_cases h1 : m < 259
   ·by_cases h2 : i + m < n
    ·exact .inr (.inr ⟨decide_eq_true (by omega), h2⟩)
    ·exact .inr (.inl ⟨decide_eq_true (by omega), h2⟩)
   ·exact .inl (decide_eq_false (by omega))
  rcases hways with d1 | ⟨d1, d2⟩ | ⟨d1, d2⟩
  ·go_wp2
   go_quiet (fail)
   go_wp2
   go_ret
   exact ⟨m, rfl, hm, him, HE.out, _, World.drewN_drewN _ _ _⟩
  ·have d3 : decide ((i : Int) + (m : Int) < (n : Int)) = false := decide_eq_false (by omega)
   go_wp2
   go_quiet (fail)
   go_wp2
   go_ret
   exact ⟨m, rfl, hm, him, HE.out, _, World.drewN_drewN _ _ _⟩
  ·obtain ⟨bb, off, rfl, _, hcl⟩ := sl_bytes (k := 0) HA.out (by omega)
   have y1 := hcl w (Below.refl _ _) (k + m) (by omega)
   have y2 := hcl w (Below.refl _ _) (i + m) (by omega)
   clear hcl
   have d3 : decide ((i : Int) + (m : Int) < (n : Int)) = true := decide_eq_true (by omega)
   rcases Decidable.em (b[k + m]?.getD 0 = b[i + m]?.getD 0) with he | he
   ·have d4 : (((b[k + m]?.getD 0).toNat : Int) == ((b[i + m]?.getD 0).toNat : Int)) = true := by rw [he]; exact beq_self_eq_true _
    clear he
    go_wp2
    go_quiet (fail)
    go_wp2
    go_roundw
    case rel =>
     refine ⟨m + 1, _, by go_num, by have := of_decide_eq_true d1; omega, by omega, rfl, Lib.hid (fun t ht => ?_)⟩
     rcases Nat.lt_or_ge t m with h | h
     ·exact HE.out t h
     ·obtain rfl : t = m := by omega
      have d5 := Int.ofNat.inj (eq_of_beq d4)
      rw [List.getD_eq_getElem?_getD, List.getD_eq_getElem?_getD]
      exact UInt8.toNat_inj.1 d5
    case measure => simp [intOf]; omega
   ·have d4 : (((b[k + m]?.getD 0).toNat : Int) == ((b[i + m]?.getD 0).toNat : Int)) = false := beq_eq_false_iff_ne.2 (fun e => he (UInt8.toNat_inj.1 (Int.ofNat.inj e)))
    clear he
    go_wp2
    go_quiet (fail)
    go_wp2
    go_ret
    exact ⟨m, rfl, hm, him, HE.out, _, World.drewN_drewN _ _ _⟩
set_option maxRecDepth 100000 in
set_option maxHeartbeats 4000000 in
/-- the longest copy at a place -/
theorem rlongest_any (A : Option Addr) (n c : Nat) (b : List UInt8) (i : Nat) (w : World) (hA : Sl w 1 A n (u8s b)) (hi : i ≤ n) (hn : n ≤ 1000000000) :
  Calls Tryz.prog 317 #[.slice A n c, I i] w fun e w' => ∃ m d : Nat, e = .returned (.tuple #[I m, I d]) ∧ GoodC b i n m d ∧ ∃ j, w' = w.drewN j := by
 have HA := Lib.hid hA
 clear hA
 go_enter Tryz.func317, Tryz.ntmps317
 go_wp2
 go_loopw [6, 7, 8] (fun mv bv dv wr => ∃ m bd d j : Nat, mv = .int .i64 m ∧ bv = .int .i64 bd ∧ dv = .int .i64 d ∧ 1 ≤ d ∧ d ≤ 4097 ∧ wr = w.drewN j ∧ Hid (GoodC b i n m bd)) (fun _ _ dv _ => 5000 - (intOf dv).toNat)
 case atStart => exact ⟨0, 0, 1, 0, rfl, rfl, rfl, by omega, by omega, rfl, Lib.hid ⟨by omega, by omega, fun h => absurd h (by omega)⟩⟩
 case round =>
  obtain ⟨m, bd, d, j, rfl, rfl, rfl, hd1, hd2, rfl, HC⟩ := hrel
  have hways : decide ((d : Int) ≤ 4096) = false ∨ (decide ((d : Int) ≤ 4096) = true ∧ decide (d ≤ i) = false) ∨ (decide ((d : Int) ≤ 4096) = true ∧ decide (d ≤ i) = true) := by
   by_cases h1 : d ≤ 4096
   ·by_cases h2 : d ≤ i
    ·exact .inr (.inr ⟨decide_eq_true (by omega), decide_eq_true (by omega)⟩)
    ·exact .inr (.inl ⟨decide_eq_true (by omega), decide_eq_false (by omega)⟩)
   ·exact .inl (decide_eq_false (by omega))
  rcases hways with d1 | ⟨d1, d2⟩ | ⟨d1, d2⟩
  ·go_wp2
   go_ret2
   exact ⟨m, bd, rfl, HC.out, _, rfl⟩
  ·go_wp2
   go_ret2
   exact ⟨m, bd, rfl, HC.out, _, rfl⟩
  ·have h4096 := of_decide_eq_true d1
   have hdi := of_decide_eq_true d2
   have CA := Lib.hid (fun V (hV : Below w.heap.size w V) => ralike_any A n c b (i - d) i V (HA.out.below hV) (by omega) hi hn)
   go_wp2_with fail
   rw [show (i : Int) - (d : Int) = ((i - d : Nat) : Int) by omega]
   refine (CA.out _ (below_drewN (Below.refl _ _) _)).mono ?_
   rintro e w2 ⟨m2, rfl, hm1, hm2, hm3, j2, rfl⟩
   have HM := Lib.hid hm3
   clear hm3 CA
   have hw2 : decide (m < m2) = true ∨ decide (m < m2) = false := by cases decide (m < m2) <;> simp
   rcases hw2 with d3 | d3
   ·go_wp2
    go_roundw
    case rel => exact ⟨m2, d, d + 1, _, rfl, rfl, by go_num, by omega, by omega, rfl, Lib.hid ⟨hm1, hm2, fun _ => ⟨hd1, by omega, by omega, HM.out⟩⟩⟩
    case measure => simp [intOf]; omega
   ·go_wp2
    go_roundw
    case rel => exact ⟨m, bd, d + 1, _, rfl, rfl, by go_num, by omega, by omega, rfl, HC⟩
    case measure => simp [intOf]; omega
set_option maxRecDepth 100000 in
set_option maxHeartbeats 1000000 in
/-- bytes that were passed over -/
theorem rprun_any (A B : Option Addr) (n m c d : Nat) (o s : List UInt8) (w : World) (hA : SlT (fun _ => True) 5 w 1 A n (u8s o)) (hcc : n ≤ c ∧ c ≤ maxLen) (hB : Sl w 1 B m (u8s s)) (hn : n + m + 20 ≤ 100000000000) :
  Calls Tryz.prog 318 #[.slice A n c, .slice B m d] w (RetT w (if m = 0 then o else o ++ putNum (2 * (m - 1)) ++ s)) := by
 obtain ⟨i0, hi0, hz0, hz1, hz2⟩ := info_parts Tryz.infoU8
 have HA := Lib.hid hA
 have HB := Lib.hid hB
 clear hA hB
 go_enter Tryz.func318, Tryz.ntmps318
 rcases Nat.eq_zero_or_pos m with rfl | hm
 ·go_wp2
  go_ret
  have h9 := HA.out
  exact ⟨⟨A, n, c, rfl, h9, hcc⟩, Below.refl _ _⟩
 ·have hz : ((m : Int) == 0) = false := beq_eq_false_iff_ne.2 (by omega)
  have CP := Lib.hid (refPutNum_nat A n c (2 * (m - 1)) o w HA.out.sl (by omega) (by omega))
  go_wp2_with fail
  rw [show (2 : Int) * ((m : Int) - 1) = ((2 * (m - 1) : Nat) : Int) by omega]
  refine CP.out.mono ?_
  rintro e w1 ⟨A1, m1, c1, rfl, hO1⟩
  have hl1 : m1 ≤ n + 9 := by
   have h1 := ow_len hO1
   have h2 := putNum_len_le (n := 2 * (m - 1)) (by unfold top62; omega)
   have h3 := u8s_len HA.out.sl
   rw [List.length_append] at h1
   omega
  have HO1 := Lib.hid hO1
  have HB1 := Lib.hid (HB.out.below hO1.2)
  have q1 : m1 + m ≤ maxLen := by simp only [maxLen]; omega
  have q2 : (m1 + m) * 1 ≤ 140737488355328 := by omega
  clear hO1 CP hz hl1
  go_wp2_with (at_builtin; refine wpList_append_sl _ rfl (.tmp 14) (.tmp 15) _ rfl w 5 i0 _ 1 1 Tryz.underlying27 hi0 hz0 hz1 hz2 rfl Nat.one_pos A1 m1 c1 _ rfl HO1.out B m d (u8s s) rfl HB1.out (one_u8s s) q1 q2 ?_; intro A4 c4 w4 hO4 hg4 hat4; have HO4 := Lib.hid hO4; clear hO4 hg4 hat4)
  go_ret
  have h9 := HO4.out
  rw [show u8s (o ++ putNum (2 * (m - 1))) ++ u8s s = u8s (o ++ putNum (2 * (m - 1)) ++ s) by simp [u8s]] at h9
  exact ⟨⟨A4, m1 + m, c4, rfl, by rw [← List.append_assoc]; exact h9.slT.weak (fun _ _ _ => trivial), h9.cap⟩, h9.2⟩
set_option maxHeartbeats 8000000 in
set_option maxRecDepth 100000 in
theorem rpress_any (A : Option Addr) (n c : Nat) (b : List UInt8) (w : World) (hA : Sl w 1 A n (u8s b)) (hnc : n ≤ c) (hn0 : 0 < n) (hn : n ≤ 100000000) :
  Calls Tryz.prog 272 #[.slice A n c] w (RetP b w) := by
 obtain rfl : b.length = n := u8s_len hA
 have HA := Lib.hid hA
 obtain ⟨bA, oA, hAe, _, _⟩ := hA.2 hn0
 subst hAe
 have C0 := Lib.hid (refPutNum_nat none 0 0 b.length [] w Sl.nil_ (by omega) (by omega))
 go_enter Tryz.func272, Tryz.ntmps272
 go_wp2_with fail
 refine C0.out.mono ?_
 rintro e w3 ⟨A1, k1, c1, rfl, hO⟩
 have HO1 : Hid (SlT (fun _ => True) 5 w3 1 A1 k1 (u8s (putNum b.length ++ [])) ∧ k1 ≤ c1 ∧ c1 ≤ maxLen) := Lib.hid ⟨by have h1 := hO.slT.weak (G := fun _ => True) (fun _ _ _ => trivial); rw [List.nil_append] at h1; rw [List.append_nil]; exact h1, hO.cap⟩
 have B3 := Lib.hid hO.2
 clear hO C0
 go_wp2
 go_loopw [3, 4, 5] (fun ov fv iv wr => ∃ (Ao : Option Addr) (ko co fr i : Nat) (P : List UInt8), ov = .slice Ao ko co ∧ fv = .int .i64 fr ∧ iv = .int .i64 i ∧ fr ≤ i ∧ i ≤ b.length ∧ Hid (SlT (fun _ => True) 5 wr 1 Ao ko (u8s (putNum b.length ++ P)) ∧ ko ≤ co ∧ co ≤ maxLen) ∧ Hid (LaidT b P (b.take fr)) ∧ Hid (5 * P.length ≤ 6 * fr) ∧ Hid (Below w.heap.size w wr)) (fun _ _ iv _ => b.length - (intOf iv).toNat)
 case atStart => exact ⟨A1, k1, c1, 0, 0, [], rfl, rfl, rfl, Nat.le_refl _, Nat.zero_le _, HO1, Lib.hid (LaidT.nil b), Lib.hid (by simp), B3⟩
 case round =>
  obtain ⟨Ao, ko, co, fr, i, P, rfl, rfl, rfl, hfi, hib, hO, hT, hL, hB⟩ := hrel
  by_cases hlt : i < b.length
  ·have CL := Lib.hid (rlongest_any (some ⟨bA, oA, none⟩) b.length c b i wr (HA.out.below hB.out) (by omega) (by omega))
   go_wp2_with fail
   refine CL.out.mono ?_
   rintro e w4 ⟨bn, bd, rfl, hG, hx⟩
   have b4 : Below wr.heap.size wr w4 := by
    obtain ⟨j, rfl⟩ := hx
    exact below_drewN (Below.refl _ _) j
   have HG := Lib.hid hG
   have HO4 : Hid (SlT (fun _ => True) 5 w4 1 Ao ko (u8s (putNum b.length ++ P))) := Lib.hid (hO.out.1.step b4)
   have B4 : Hid (Below w.heap.size w w4) := Lib.hid (bstep hB.out b4)
   clear hG hx b4 CL
   have hways : decide ((bn : Int) < 4) = true ∨ (decide ((bn : Int) < 4) = false ∧ 4 ≤ bn) := by
    by_cases h : bn < 4
    ·exact .inl (decide_eq_true (by omega))
    ·exact .inr ⟨decide_eq_false (by omega), by omega⟩
   rcases hways with d1 | ⟨d1, h4⟩
   ·go_wp2
    go_roundw
    case rel => exact ⟨Ao, ko, co, fr, i + 1, P, rfl, rfl, by go_num, by omega, by omega, Lib.hid ⟨HO4.out, hO.out.2⟩, hT, hL, B4⟩
    case measure => simp [intOf]; omega
   ·obtain ⟨hg1, hg2, hg3⟩ := HG.out
    obtain ⟨hg4, hg5, hg6, hg7⟩ := hg3 (by omega)
    have HT9 := Lib.hid (hT.out.lay hfi h4 hg1 hg2 hg4 hg6 hg5 hg7)
    have HL9 := Lib.hid (lay_len (d := bd) hL.out hfi h4 hg1 hg2 hn hg5)
    have hk0 : ko = (putNum b.length ++ P).length := (u8s_len HO4.out.sl).symm
    have hkl : (putNum b.length ++ P).length ≤ 200000000 := by
     have h1 := putNum_len_below 4 b.length (by omega) (by omega)
     have h2 := hL.out
     rw [List.length_append]
     omega
    obtain ⟨o5, ho5⟩ : ∃ o5, o5 = if i - fr = 0 then putNum b.length ++ P else putNum b.length ++ P ++ putNum (2 * (i - fr - 1)) ++ (b.drop fr).take (i - fr) := ⟨_, rfl⟩
    have hl5 : o5.length ≤ 400000000 := by
     rw [ho5]
     split
     ·omega
     ·have h1 := putNum_len_below 4 (2 * (i - fr - 1)) (by omega) (by omega)
      rw [List.length_append, List.length_append, List.length_take, List.length_drop]
      omega
    have he5 : o5 ++ putNum (2 * (bn - 4) + 1) ++ putNum bd = putNum b.length ++ layT P b fr i bn bd := by
     rw [ho5]
     unfold layT
     split <;> simp [List.append_assoc]
    have hc1 : ∀ V : World, (Instr.slice 27 (.slice (some ⟨bA, oA, none⟩) b.length c) (some (.int .i64 fr)) (some (.int .i64 i)) none).run Tryz.prog V = .ok (.slice (cutA (some ⟨bA, oA, none⟩) c fr 1) (i - fr) (c - fr)) V := fun V => run_cut_lh (P := Tryz.prog) V Tryz.underlying27 Tryz.sizeU8 _ _ c .i64 .i64 fr i hfi (by omega)
    have CR := Lib.hid (rprun_any Ao (cutA (some ⟨bA, oA, none⟩) c fr 1) ko (i - fr) co (c - fr) (putNum b.length ++ P) ((b.drop fr).take (i - fr)) w4 HO4.out hO.out.2 ((HA.out.below B4.out).mid_ hfi hib hnc) (by omega))
    rw [← ho5] at CR
    have He5 := Lib.hid he5
    have Hl5 := Lib.hid hl5
    clear hg3 hg7 hk0 hkl ho5 hl5 he5
    go_wp2_with fail
    refine CR.out.mono ?_
    rintro e w5 ⟨⟨A5, k5, c5, rfl, hS5, hcc5⟩, b5⟩
    have hk5 : o5.length = k5 := u8s_len hS5.sl
    have B5 := Lib.hid (bstep B4.out b5)
    have CN := Lib.hid (refPutNum_nat A5 k5 c5 (2 * (bn - 4) + 1) o5 w5 hS5.sl (by have := Hl5.out; omega) (by omega))
    clear hc1 CR b5 hS5 hcc5 hk5
    go_wp2_with fail
    rw [show (2 : Int) * ((bn : Int) - 4) + 1 = ((2 * (bn - 4) + 1 : Nat) : Int) by omega]
    refine CN.out.mono ?_
    rintro e w6 ⟨A6, k6, c6, rfl, hO6⟩
    have B6 := Lib.hid (bstep B5.out hO6.2)
    have CN2 := Lib.hid (refPutNum_nat A6 k6 c6 bd (o5 ++ putNum (2 * (bn - 4) + 1)) w6 hO6.sl (by
     have h1 := ow_len hO6
     have h2 := putNum_len_below 4 (2 * (bn - 4) + 1) (by omega) (by omega)
     have h3 := Hl5.out
     rw [List.length_append] at h1
     omega) (by omega))
    clear CN hO6
    go_wp2_with fail
    refine CN2.out.mono ?_
    rintro e w7 ⟨A7, k7, c7, rfl, hO7⟩
    have B7 := Lib.hid (bstep B6.out hO7.2)
    have HO7 : Hid (SlT (fun _ => True) 5 w7 1 A7 k7 (u8s (putNum b.length ++ layT P b fr i bn bd)) ∧ k7 ≤ c7 ∧ c7 ≤ maxLen) := Lib.hid ⟨by
     have h1 := hO7.slT.weak (G := fun _ => True) (fun _ _ _ => trivial)
     rw [He5.out] at h1
     exact h1, hO7.cap⟩
    clear hO7 CN2
    go_wp2
    go_roundw
    case rel => exact ⟨A7, k7, c7, i + bn, i + bn, layT P b fr i bn bd, rfl, by go_num, by go_num, Nat.le_refl _, hg2, HO7, HT9, HL9, B7⟩
    case measure => simp [intOf]; omega
  ·obtain rfl : i = b.length := by omega
   have hkl : ko ≤ 200000000 := by
    have h0 := u8s_len hO.out.1.sl
    have h1 := putNum_len_below 4 b.length (by omega) (by omega)
    have h2 := hL.out
    rw [List.length_append] at h0
    omega
   have hc1 : ∀ V : World, (Instr.slice 27 (.slice (some ⟨bA, oA, none⟩) b.length c) (some (.int .i64 fr)) none none).run Tryz.prog V = .ok (.slice (cutA (some ⟨bA, oA, none⟩) c fr 1) (b.length - fr) (c - fr)) V := fun V => run_cut_l (P := Tryz.prog) V Tryz.underlying27 Tryz.sizeU8 _ _ c .i64 fr hfi
   have CR := Lib.hid (rprun_any Ao (cutA (some ⟨bA, oA, none⟩) c fr 1) ko (b.length - fr) co (c - fr) (putNum b.length ++ P) (b.drop fr) wr hO.out.1 hO.out.2 ((HA.out.below hB.out).tail_ hfi hnc) (by omega))
   go_wp2_with fail
   refine CR.out.mono ?_
   rintro e w5 ⟨⟨A5, k5, c5, rfl, hS5, hcc5⟩, b5⟩
   have hp := hT.out.fin hfi
   have hq := fin_len hL.out hfi hn
   have he : (putNum b.length ++ (if b.length - fr = 0 then P else P ++ putNum (2 * (b.length - fr - 1)) ++ b.drop fr)) = if b.length - fr = 0 then putNum b.length ++ P else putNum b.length ++ P ++ putNum (2 * (b.length - fr - 1)) ++ b.drop fr := by
    split <;> simp [List.append_assoc]
   rw [he] at hp hq
   have HX : Hid (RetP b w (.returned (.slice A5 k5 c5)) w5) := Lib.hid ⟨⟨A5, k5, c5, _, rfl, hS5, hcc5.1, hcc5.2, hp, hq⟩, bstep hB.out b5⟩
   clear hp hq he hS5 hcc5 b5 CR hc1
   go_wp2
   go_ret
   exact HX.out
def lenV9 : Value → Nat
 | .slice _ n _ => n
 | _ => 0
theorem rest_apart {w0 w1 w2 : World} {A B : Option Addr} {n m c d : Nat} {xs ys : List Value} {e : TypeId} (h : Ow w0 w1 e 1 A n c xs) (k : Ow w1 w2 e 1 B m d ys) : SlT (fun b => (Value.slice A n c).ownBlock ≠ some b) e w2 1 B m ys :=
 k.slT.weak (fun b _ hb e => by have := (h.1.lt b e).2; have := hb.1; omega)
theorem rest_grown {w1 w2 : World} {A A' B : Option Addr} {n n' m c c' : Nat} {ys : List Value} {e : TypeId} (k : SlT (fun b => (Value.slice A n c).ownBlock ≠ some b) e w1 1 B m ys) (hg : w1.grownBy w2 (Value.slice A n c).ownBlock)
  (ha : (Value.slice A' n' c').ownBlock = (Value.slice A n c).ownBlock ∨ (Value.slice A' n' c').ownBlock = some w1.heap.size) : SlT (fun b => (Value.slice A' n' c').ownBlock ≠ some b) e w2 1 B m ys := by
 have hf : Fr (fun b => (Value.slice A n c).ownBlock = some b) w1 w2 := Fr.of_grown hg (fun _ h => h)
 rcases ha with ha | ha
 ·rw [ha]
  exact k.fr hf (fun b h1 h2 => h1 h2)
 ·have k2 : SlT (fun b => (Value.slice A n c).ownBlock ≠ some b ∧ (Value.slice A' n' c').ownBlock ≠ some b) e w1 1 B m ys := k.weak (fun b hb h => ⟨h, by rw [ha]; intro h9; injection h9 with h9; omega⟩)
  have k3 := k2.fr hf (fun b h1 h2 => h1.1 h2)
  exact k3.weak (fun b _ h => h.2)
set_option maxHeartbeats 8000000 in
set_option maxRecDepth 100000 in
theorem rpopen_any (A : Option Addr) (n c most : Nat) (p b : List UInt8) (w : World) (hA : SlT (fun _ => True) 5 w 1 A n (u8s p)) (hnc : n ≤ c) (hn : n ≤ 100000000) (hP : Pressed b p) (hb : b.length ≤ most) (hbl : b.length ≤ 100000000) :
  Calls Tryz.prog 250 #[.slice A n c, I (most : Int)] w (RetO b w) := by
 obtain ⟨i0, hi0, hz0, hz1, hz2⟩ := info_parts Tryz.infoU8
 obtain ⟨P, hpP, hT⟩ := hP
 have HT := Lib.hid hT
 have C0 := Lib.hid (refTakeNum_any A n c p w hA.sl hnc (by omega))
 have hE := Lib.hid (show takeNum p = some (b.length, P) by rw [hpP]; exact take_putN (by unfold top62; omega) P)
 have hPl : P.length ≤ n := by
  have h1 := u8s_len hA.sl
  rw [hpP, List.length_append] at h1
  omega
 have D0 : decide (most < b.length) = false := decide_eq_false (by omega)
 clear hT hpP
 go_enter Tryz.func250, Tryz.ntmps250
 go_wp2_with fail
 refine C0.out.mono ?_
 rintro e w1 hR
 have hR2 : ∃ A1 m1 c1, e = .returned (.tuple #[I (b.length : Nat), .slice A1 m1 c1, I 0]) ∧ Ow w w1 5 1 A1 m1 c1 (u8s P) := by
  rcases hR with ⟨v, rest, A1, m1, c1, ht, rfl, ho⟩ | ⟨ht, _, _⟩
  ·rw [hE.out] at ht
   injection ht with ht
   injection ht with h1 h2
   subst h1 h2
   exact ⟨A1, m1, c1, rfl, ho⟩
  ·rw [hE.out] at ht
   cases ht
 obtain ⟨A1, m1, c1, rfl, hO1⟩ := hR2
 have hm1 : m1 ≤ 100000000 := by have := u8s_len hO1.sl; omega
 have HM1 := Lib.hid hm1
 have HS1 : Hid (SlT (fun b => (Value.slice none 0 0).ownBlock ≠ some b) 5 w1 1 A1 m1 (u8s P) ∧ m1 ≤ c1) := Lib.hid ⟨hO1.slT.weak (fun _ _ _ => by simp [Value.ownBlock]), hO1.cap.1⟩
 have HN1 : Hid (Ow w w1 5 1 none 0 0 (u8s [])) := Lib.hid (Ow.nil_ hO1.2)
 clear hR hO1 hm1 C0 hE hPl
 go_wp2
 go_loopw [0, 8] (fun pv ov wr => ∃ (Ap Ao : Option Addr) (np cp no co : Nat) (rest out : List UInt8), pv = .slice Ap np cp ∧ ov = .slice Ao no co ∧ Hid (SlT (fun b => (Value.slice Ao no co).ownBlock ≠ some b) 5 wr 1 Ap np (u8s rest) ∧ np ≤ cp) ∧ Hid (Ow w wr 5 1 Ao no co (u8s out)) ∧ Hid (Toks b out rest) ∧ Hid (np ≤ 100000000)) (fun pv _ _ => lenV9 pv)
 case atStart => exact ⟨A1, none, m1, c1, 0, 0, P, [], rfl, rfl, HS1, HN1, HT, HM1⟩
 case round =>
  obtain ⟨Ap, Ao, np, cp, no, co, rest, out, rfl, rfl, HS, HO, HTk, HN⟩ := hrel
  have hol : out.length = no := u8s_len HO.out.sl
  have hrl : rest.length = np := u8s_len HS.out.1.sl
  rcases HTk.out.next with ⟨e1, e2⟩ | ⟨seg, rest', h0, h1, e1, h3, hT'⟩ | ⟨bn, bd, rest', h0, h4, hn4, hd, hd2, hd3, e1, h5, hT'⟩
  ·subst e1
   have hz : np = 0 := by simpa using hrl.symm
   subst hz
   have hq : (no : Int) = (b.length : Int) := by rw [e2] at hol; omega
   have hF := HO.out
   rw [e2] at hF
   have HF := Lib.hid hF
   have dq : ((no : Int) != (b.length : Int)) = false := by rw [hq]; simp
   clear hF hq hol hrl e2
   go_wp2
   go_ret2
   exact ⟨⟨Ao, no, co, rfl, HF.out⟩, HF.out.2⟩
  ·obtain ⟨t, ht⟩ : ∃ t, t = 2 * (seg.length - 1) := ⟨_, rfl⟩
   have hseg : seg.length ≤ 100000000 := by omega
   have CT := Lib.hid (refTakeNum_any Ap np cp rest wr HS.out.1.sl HS.out.2 (by have := HN.out; omega))
   have hE := Lib.hid (show takeNum rest = some (t, seg ++ rest') by rw [e1, ← ht]; exact take_putN (by unfold top62; omega) _)
   have hlt : (seg ++ rest').length < np := by
    have := putNum_len_pos (2 * (seg.length - 1))
    rw [e1, List.length_append] at hrl
    omega
   have dg : decide (0 < np) = true := decide_eq_true (by omega)
   go_wp2_with fail
   refine CT.out.mono ?_
   rintro e w2 hR
   have hR2 : ∃ A2 m2 c2, e = .returned (.tuple #[I (t : Nat), .slice A2 m2 c2, I 0]) ∧ Ow wr w2 5 1 A2 m2 c2 (u8s (seg ++ rest')) := by
    rcases hR with ⟨v, rest, A1, m1, c1, ht, rfl, ho⟩ | ⟨ht, _, _⟩
    ·rw [hE.out] at ht
     injection ht with ht
     injection ht with h1 h2
     subst h1 h2
     exact ⟨A1, m1, c1, rfl, ho⟩
    ·rw [hE.out] at ht
     cases ht
   obtain ⟨A2, m2, c2, rfl, hO2⟩ := hR2
   have HS2 : Hid (SlT (fun b => (Value.slice Ao no co).ownBlock ≠ some b) 5 w2 1 A2 m2 (u8s (seg ++ rest'))) := Lib.hid (rest_apart HO.out hO2)
   have HO2 : Hid (Ow w w2 5 1 Ao no co (u8s out)) := Lib.hid (HO.out.keep hO2.2)
   have hm2 : (seg ++ rest').length = m2 := u8s_len hO2.sl
   have hc2 := hO2.cap.1
   obtain ⟨sl, hsl⟩ : ∃ sl, sl = seg.length := ⟨_, rfl⟩
   have hm3 : sl ≤ m2 := by rw [← hm2, List.length_append]; omega
   have q1 : (t : Int) / 2 + 1 = (sl : Int) := by omega
   have q2 : ((t : Int) % 2 == 1) = false := beq_eq_false_iff_ne.2 (by omega)
   have q3 : ((t : Int) % 2 == 0) = true := beq_iff_eq.2 (by omega)
   have q4 : decide ((sl : Int) > (b.length : Int) - (no : Int)) = false := decide_eq_false (by omega)
   have q4' : decide ((b.length : Int) - (no : Int) < (sl : Int)) = false := decide_eq_false (by omega)
   have q5 : decide (m2 < sl) = false := decide_eq_false (by omega)
   have hc1 : ∀ V : World, (Instr.slice 27 (.slice A2 m2 c2) none (some (.int .i64 sl)) none).run Tryz.prog V = .ok (.slice (cutA A2 c2 0 1) sl c2) V := fun V => run_cut_h (P := Tryz.prog) V Tryz.underlying27 Tryz.sizeU8 _ _ c2 .i64 sl (by omega)
   have hc3 : ∀ V : World, (Instr.slice 27 (.slice A2 m2 c2) (some (.int .i64 sl)) none none).run Tryz.prog V = .ok (.slice (cutA A2 c2 sl 1) (m2 - sl) (c2 - sl)) V := fun V => run_cut_l (P := Tryz.prog) V Tryz.underlying27 Tryz.sizeU8 _ _ c2 .i64 sl hm3
   have HSeg : Hid (Sl w2 1 (cutA A2 c2 0 1) sl (u8s seg)) := by
    have h9 := (HS2.out.take_ hm3 hc2).sl
    rw [hsl, List.take_left' rfl] at h9
    rw [hsl]
    exact Lib.hid h9
   have g1 : no + sl ≤ maxLen := by simp only [maxLen]; omega
   have g2 : (no + sl) * 1 ≤ 140737488355328 := by omega
   have HX : Hid (sl = seg.length ∧ m2 - sl < np ∧ m2 ≤ 100000000) := Lib.hid ⟨hsl, by omega, by have := HN.out; omega⟩
   have HTk2 := Lib.hid hT'
   have Hc2 := Lib.hid hc2
   have Hm3 := Lib.hid hm3
   clear hR hO2 CT hE ht hseg hlt hol hrl h0 h1 e1 h3 hT' hm2 hc2 hsl hm3
   go_wp2_with (at_builtin; refine wpList_append_sl _ rfl (.tmp 63) (.tmp 66) _ rfl w 5 i0 _ 1 1 Tryz.underlying27 hi0 hz0 hz1 hz2 rfl Nat.one_pos _ _ _ _ rfl HO2.out _ _ _ _ rfl HSeg.out (one_u8s seg) g1 g2 ?_; intro A4 c4 w4 hO4 hg4 hat4; have HO4 := Lib.hid hO4; have HS4 := Lib.hid (rest_grown HS2.out hg4 hat4); clear hO4 hg4 hat4)
   go_roundw
   case rel =>
    refine ⟨_, A4, _, _, no + sl, c4, rest', out ++ seg, rfl, rfl, Lib.hid ⟨?_, by have := Hc2.out; omega⟩, Lib.hid ?_, HTk2, Lib.hid (by have := HX.out; omega)⟩
    ·have h9 := HS4.out.drop_ Hm3.out Hc2.out
     rw [HX.out.1, List.drop_left' rfl, ← HX.out.1] at h9
     exact h9
    ·have h9 := HO4.out
     rw [show u8s out ++ u8s seg = u8s (out ++ seg) by simp [u8s]] at h9
     exact h9
   case measure => have := HX.out; simp [lenV9]; omega
  ·obtain ⟨t, ht⟩ : ∃ t, t = 2 * (bn - 4) + 1 := ⟨_, rfl⟩
   have CT := Lib.hid (refTakeNum_any Ap np cp rest wr HS.out.1.sl HS.out.2 (by have := HN.out; omega))
   have hE := Lib.hid (show takeNum rest = some (t, putNum bd ++ rest') by rw [e1, ← ht]; exact take_putN (by unfold top62; omega) _)
   have hlt : rest'.length < np := by
    have := putNum_len_pos (2 * (bn - 4) + 1)
    rw [e1, List.length_append, List.length_append] at hrl
    omega
   have dg : decide (0 < np) = true := decide_eq_true (by omega)
   go_wp2_with fail
   refine CT.out.mono ?_
   rintro e w2 hR
   have hR2 : ∃ A2 m2 c2, e = .returned (.tuple #[I (t : Nat), .slice A2 m2 c2, I 0]) ∧ Ow wr w2 5 1 A2 m2 c2 (u8s (putNum bd ++ rest')) := by
    rcases hR with ⟨v, rest, A1, m1, c1, ht, rfl, ho⟩ | ⟨ht, _, _⟩
    ·rw [hE.out] at ht
     injection ht with ht
     injection ht with h1 h2
     subst h1 h2
     exact ⟨A1, m1, c1, rfl, ho⟩
    ·rw [hE.out] at ht
     cases ht
   obtain ⟨A2, m2, c2, rfl, hO2⟩ := hR2
   have HO2 : Hid (Ow w w2 5 1 Ao no co (u8s out)) := Lib.hid (HO.out.keep hO2.2)
   have hm2 : (putNum bd ++ rest').length = m2 := u8s_len hO2.sl
   have CT2 := Lib.hid (refTakeNum_any A2 m2 c2 (putNum bd ++ rest') w2 hO2.sl hO2.cap.1 (by
    have h1 := putNum_len_below 2 bd (by omega) (by omega)
    have h2 := HN.out
    rw [List.length_append] at hm2
    omega))
   have hE2 := Lib.hid (show takeNum (putNum bd ++ rest') = some (bd, rest') from take_putN (by unfold top62; omega) _)
   have q1 : (t : Int) / 2 + 4 = (bn : Int) := by omega
   have q2 : ((t : Int) % 2 == 1) = true := beq_iff_eq.2 (by omega)
   have q3 : ((t : Int) % 2 == 0) = false := beq_eq_false_iff_ne.2 (by omega)
   have q4 : decide ((b.length : Int) - (no : Int) < (bn : Int)) = false := decide_eq_false (by omega)
   have q4' : decide ((bn : Int) > (b.length : Int) - (no : Int)) = false := decide_eq_false (by omega)
   have hno : no ≤ b.length := by omega
   have HT2 := Lib.hid hT'
   have Hlt := Lib.hid hlt
   have HB : Hid (out.length = no ∧ no + bn ≤ b.length ∧ bd ≤ no) := Lib.hid ⟨hol, by omega, by omega⟩
   clear hR CT hE ht hlt hol hrl h0 e1 h5 hT' hm2 hO2
   go_wp2_with fail
   refine CT2.out.mono ?_
   rintro e w3 hR
   have hR2 : ∃ A2 m2 c2, e = .returned (.tuple #[I (bd : Nat), .slice A2 m2 c2, I 0]) ∧ Ow w2 w3 5 1 A2 m2 c2 (u8s rest') := by
    rcases hR with ⟨v, rest, A1, m1, c1, ht, rfl, ho⟩ | ⟨ht, _, _⟩
    ·rw [hE2.out] at ht
     injection ht with ht
     injection ht with h1 h2
     subst h1 h2
     exact ⟨A1, m1, c1, rfl, ho⟩
    ·rw [hE2.out] at ht
     cases ht
   obtain ⟨A3, m3, c3, rfl, hO3⟩ := hR2
   have HS3 : Hid (SlT (fun b => (Value.slice Ao no co).ownBlock ≠ some b) 5 w3 1 A3 m3 (u8s rest') ∧ m3 ≤ c3) := Lib.hid ⟨rest_apart HO2.out hO3, hO3.cap.1⟩
   have HO3 : Hid (Ow w w3 5 1 Ao no co (u8s out)) := Lib.hid (HO2.out.keep hO3.2)
   have hm3 : rest'.length = m3 := u8s_len hO3.sl
   have HM3 : Hid (m3 < np) := Lib.hid (by have := Hlt.out; omega)
   have z1 : decide ((bn : Int) > 259) = false := decide_eq_false (by omega)
   have z1' : decide (259 < (bn : Int)) = false := decide_eq_false (by omega)
   have z2 : decide ((bd : Int) < 1) = false := decide_eq_false (by omega)
   have z3 : decide (no < bd) = false := decide_eq_false (by have := HB.out; omega)
   have z4 : decide ((bd : Int) > 4096) = false := decide_eq_false (by omega)
   have z4' : decide (4096 < (bd : Int)) = false := decide_eq_false (by omega)
   have Hd := Lib.hid hd
   clear hR CT2 hE2 hO3 hm3 hd hd2 hd3 h4
   go_wp2
   go_loopw [8, 15] (fun ov kv wx => ∃ (Ax : Option Addr) (nx cx k : Nat) (ox : List UInt8), ov = .slice Ax nx cx ∧ kv = .int .i64 k ∧ k ≤ bn ∧ Hid (nx = no + k) ∧ Hid (Ow w wx 5 1 Ax nx cx (u8s ox)) ∧ Hid (SlT (fun b => (Value.slice Ax nx cx).ownBlock ≠ some b) 5 wx 1 A3 m3 (u8s rest')) ∧ Hid (copyL ox bd (bn - k) = copyL out bd bn)) (fun _ kv _ => bn - (intOf kv).toNat)
   case atStart => exact ⟨Ao, no, co, 0, out, rfl, rfl, Nat.zero_le _, Lib.hid rfl, HO3, Lib.hid HS3.out.1, Lib.hid rfl⟩
   case round =>
    obtain ⟨Ax, nx, cx, k, ox, rfl, rfl, hk, HNx, HOx, HSx, HCx⟩ := hrel
    by_cases hkb : k < bn
    ·have dk : decide (k < bn) = true := decide_eq_true hkb
     have hxl : ox.length = nx := u8s_len HOx.out.sl
     have hb1 := HB.out
     have hn1 := HNx.out
     have hd1 := Hd.out
     obtain ⟨g, rfl, _, _⟩ := HOx.out.form (by omega)
     have hjx : nx - bd < nx := by have := Hd.out; omega
     obtain ⟨g', off, x, e9, hx, hcl⟩ := HOx.out.sl.byte hjx
     obtain ⟨rfl, rfl⟩ : g' = g ∧ off = 0 := by
      injection e9 with e9
      injection e9 with h1 h2
      exact ⟨h1.symm, h2.symm⟩
     rw [Nat.zero_add] at hcl
     have hsub : (nx : Int) - (bd : Int) = ((nx - bd : Nat) : Int) := by omega
     have HOy := Lib.hid (HOx.out.alloc (.cells #[U8 x] 5))
     have HSy := Lib.hid (HSx.out.step (balloc (Below.refl _ wr) (.cells #[U8 x] 5)))
     have g1 : nx + 1 ≤ maxLen := by simp only [maxLen]; omega
     have g2 : (nx + 1) * 1 ≤ 140737488355328 := by omega
     have HCy : Hid (copyL (ox ++ [x]) bd (bn - (k + 1)) = copyL out bd bn) := Lib.hid (by
      rw [← HCx.out, show bn - k = bn - (k + 1) + 1 by omega, copyL, hxl, List.getD_eq_getElem?_getD, hx]
      rfl)
     clear hxl hb1 hn1 e9 hx
     go_wp2_with (at_builtin; refine wpList_append_sl _ rfl (.tmp 103) (.tmp 111) _ rfl w 5 i0 _ 1 1 Tryz.underlying27 hi0 hz0 hz1 hz2 rfl Nat.one_pos _ _ _ _ rfl HOy.out _ 1 1 [U8 x] rfl (sl_one _ _ _) (one_one rfl) g1 g2 ?_; intro A4 c4 w4 hO4 hg4 hat4; have HO4 := Lib.hid hO4; have HS4 := Lib.hid (rest_grown HSy.out hg4 hat4); clear hO4 hg4 hat4)
     go_roundw
     case rel => exact ⟨A4, nx + 1, c4, k + 1, ox ++ [x], rfl, by go_num, hkb, Lib.hid (by have := HNx.out; omega), Lib.hid (by have h9 := HO4.out; rw [show u8s ox ++ [U8 x] = u8s (ox ++ [x]) by simp [u8s]] at h9; exact h9), HS4, HCy⟩
     case measure => simp [intOf]; omega
    ·obtain rfl : k = bn := by omega
     have dk : decide (k < k) = false := by simp
     have HF : Hid (ox = copyL out bd k) := Lib.hid (by have h := HCx.out; rw [Nat.sub_self, copyL] at h; exact h)
     go_wp2
     go_roundw
     case rel => exact ⟨A3, Ax, m3, c3, nx, cx, rest', copyL out bd k, rfl, rfl, Lib.hid ⟨HSx.out, HS3.out.2⟩, Lib.hid (by rw [← HF.out]; exact HOx.out), HT2, Lib.hid (by have := HM3.out; have := HN.out; omega)⟩
     case measure => have := HM3.out; simp [lenV9]; omega
end Go.Proofs.YtphnfcgdpdimbaaGreatDoor

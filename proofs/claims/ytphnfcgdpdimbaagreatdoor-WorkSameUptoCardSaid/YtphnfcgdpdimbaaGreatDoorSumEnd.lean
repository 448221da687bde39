/-
  sum.End, Sum. Conditions: the bytes can be read, no more than 1000000000.
-/
import Derived.Test.YtphnfcgdpdimbaaGreatDoorSumAdd
import Derived.Test.YtphnfcgdpdimbaaGreatDoorKitF
namespace Go.Proofs.YtphnfcgdpdimbaaGreatDoor
open Go.RowKit

theorem eight {st : List Nat} (h : st.length = 8) : ∃ a b c d e f g i, st = [a, b, c, d, e, f, g, i] := by
  match st, h with
  | [a, b, c, d, e, f, g, i], _ => exact ⟨a, b, c, d, e, f, g, i, rfl⟩
def lenV : Value → Nat
  | .slice _ n _ => n
  | _ => 0
theorem absorb_lt : ∀ (b : List UInt8) (s : List Nat), (∀ x ∈ s, x < 4294967296) → ∀ x ∈ (absorb s b).1, x < 4294967296 := by
  intro b
  induction h : b.length using Nat.strongRecOn generalizing b with
  | ind n ih =>
    intro s hs
    rw [absorb]
    by_cases h2 : 32 ≤ b.length
    · rw [dif_pos h2]
      exact ih (b.drop 32).length (by simp; omega) (b.drop 32) rfl _ (takeB_lt hs)
    · rw [dif_neg h2]
      exact hs
theorem absorb_len2 (T : List UInt8) (st : List Nat) (h : st.length = 8) : (absorb st T).1.length = 8 := by rw [absorb_len, h]
theorem run_index_words {cs : List Nat} (h : cs.length = 8) (i : Nat) (hi : i < 8) (V : World) : (Instr.index 329 (.agg (u32s cs).toArray) (.int .i64 (i : Int))).run Tryz.prog V = .ok (U32 (cs.getD i 0)) V := by
  have h1 : (sizeOf 263).run Tryz.prog V = .ok 1 V := by kernel_rfl
  have h2 : (0 : Int) ≤ i ∧ (i : Int) < 8 := by omega
  have h3 := u32s_at (s := cs) (r := []) (i := i) (by omega)
  rw [List.append_nil] at h3
  simp only [Instr.index, asIntOf, part]
  simp [run_underlying Tryz.underlying329, h1, h2]
  rw [if_pos hi, List.getElem?_eq_getElem (by omega)]
  rfl
/-- while whole blocks are taken at the end -/
structure EndI (w : World) (g : Nat) (st : List Nat) (T : List UInt8) (su : List Nat) (ts : List UInt8) (A : Option Addr) (m c : Nat) (W : World) : Prop where
  len : su.length = 8
  lt : ∀ x ∈ su, x < 4294967296
  eq : absorb su ts = absorb st T
  blk : Blk W g 329 (u32s su).toArray
  row : SlT (fun _ => True) 5 W 1 A m (u8s ts)
  cap : m ≤ c ∧ c ≤ maxLen
  mod : m % 32 = 0
  below : Below w.heap.size w W
set_option maxRecDepth 100000 in
set_option maxHeartbeats 4000000 in
theorem send_any (w : World) (p : Nat) (st : List Nat) (A : Option Addr) (k c N : Nat) (rs : List UInt8) (hp : Blk w p 332 (u32s st ++ runT A k c N).toArray) (hs : st.length = 8) (hlt : ∀ x ∈ st, x < 4294967296) (hA : SlT (fun _ => True) 5 w 1 A k (u8s rs)) (hk : k < 32) (hN : N < 18446744073709551616) :
    Calls Tryz.prog 178 #[.pointer (some ⟨p, 0, none⟩)] w fun e w' => e = .returned (S (((absorb st (rs ++ padOf k N)).1.map (fun x => leBytes x 4)).flatten)) ∧ Below w.heap.size w w' := by
  obtain ⟨i0, hi0, hz0, hz1, hz2⟩ := info_parts Tryz.infoU8
  have r8 : w.cell? ⟨p, 8, none⟩ = some (.slice A k c) := by rw [hp.cell 8]; exact run_at8 hs
  have r9 : w.cell? ⟨p, 9, none⟩ = some (U64 N) := by rw [hp.cell 9]; exact run_at9 hs
  have r10 : w.cell? ⟨p, 10, none⟩ = some (.bool true) := by rw [hp.cell 10]; exact run_at10 hs
  obtain ⟨a0, a1, a2, a3, a4, a5, a6, a7, rfl⟩ := eight hs
  obtain ⟨g, hg⟩ : ∃ g, g = w.heap.size := ⟨_, rfl⟩
  obtain ⟨w1, hw1⟩ : ∃ w1, w1 = w.alloc (.cells #[U32 a0, U32 a1, U32 a2, U32 a3, U32 a4, U32 a5, U32 a6, U32 a7] 329) := ⟨_, rfl⟩
  have e1 : Blk w1 g 329 (u32s [a0, a1, a2, a3, a4, a5, a6, a7]).toArray := by rw [hw1, hg]; exact Blk.new w _ _
  have b1 : Below w.heap.size w w1 := by rw [hw1]; exact balloc (Below.refl _ w) _
  have hp1 := hp.step b1
  have hA1 := hA.step b1
  have c0 : w.cell? ⟨p, 0, none⟩ = some (U32 a0) := hp.cell 0
  have c1 : w.cell? ⟨p, 1, none⟩ = some (U32 a1) := hp.cell 1
  have c2 : w.cell? ⟨p, 2, none⟩ = some (U32 a2) := hp.cell 2
  have c3 : w.cell? ⟨p, 3, none⟩ = some (U32 a3) := hp.cell 3
  have c4 : w.cell? ⟨p, 4, none⟩ = some (U32 a4) := hp.cell 4
  have c5 : w.cell? ⟨p, 5, none⟩ = some (U32 a5) := hp.cell 5
  have c6 : w.cell? ⟨p, 6, none⟩ = some (U32 a6) := hp.cell 6
  have c7 : w.cell? ⟨p, 7, none⟩ = some (U32 a7) := hp.cell 7
  have E1 := Lib.hid e1
  have B1 := Lib.hid b1
  have HP1 := Lib.hid hp1
  have HA1 := Lib.hid hA1
  have HL := Lib.hid hlt
  have Hs := Lib.hid hs
  have hrk : rs.length = k := u8s_len hA.sl
  have Hrk := Lib.hid hrk
  have hpl : p < w.heap.size := hp.lt
  have q0 := own_none w1 5
  rw [show w1.heap.size = w.heap.size + 1 by rw [hw1, World.size_alloc]] at q0
  have q1 := Lib.hid q0
  have HA2 := Lib.hid ((hA1.step (balloc (Below.refl _ w1) (.cells #[] 5))).sl)
  have Hg := Lib.hid hg
  have z1 := Lib.hid (show 0 + k ≤ maxLen by simp only [maxLen]; omega)
  have z2 := Lib.hid (show (0 + k) * 1 ≤ 140737488355328 by omega)
  have z3 := Lib.hid (show k + 1 ≤ maxLen by simp only [maxLen]; omega)
  have z4 := Lib.hid (show (k + 1) * 1 ≤ 140737488355328 by omega)
  have hw0 := Lib.hid hw1
  clear hp hA hlt e1 b1 hp1 hA1 hs hrk q0
  subst hw1
  go_enter Tryz.func178, Tryz.ntmps178
  go_wp2_with (first
    | (at_builtin; refine wpList_append_sl _ rfl (.tmp 23) (.tmp 27) _ rfl _ 5 i0 _ 1 1 Tryz.underlying27 hi0 hz0 hz1 hz2 rfl Nat.one_pos _ 0 0 [] rfl q1.out A k c (u8s rs) rfl HA2.out (one_u8s rs) z1.out z2.out ?_; intro A5 cc5 w5 hO5 hg5 hat5; rw [Nat.zero_add, List.nil_append] at hO5; have HO5 := Lib.hid (hO5.alloc (.cells #[U8 1] 5)); have HS6 := Lib.hid (sl_one w5 5 (U8 1)); clear hO5 hg5 hat5)
    | (at_builtin; refine wpList_append_sl _ rfl (.tmp 29) (.tmp 30) _ rfl _ 5 i0 _ 1 1 Tryz.underlying27 hi0 hz0 hz1 hz2 rfl Nat.one_pos A5 k cc5 _ rfl HO5.out _ 1 1 [U8 1] rfl HS6.out (by simp [Value.oneCell']) z3.out z4.out ?_; intro A6 cc6 w6 hO6 hg6 hat6; have HO6 := Lib.hid hO6; clear hO6 hg6 hat6))
  clear r8 r9 r10 c0 c1 c2 c3 c4 c5 c6 c7 z1 z2 z3 z4 q1 HA2 HO5 HS6
  generalize hW : w.alloc (.cells #[U32 a0, U32 a1, U32 a2, U32 a3, U32 a4, U32 a5, U32 a6, U32 a7] 329) = w1 at *
  rw [← hg]
  clear hW hw0 hg
  have I0 : Hid (Ow w1 w6 5 1 A6 (k + 1) cc6 (u8s (rs ++ [1] ++ List.replicate 0 0))) := Lib.hid (by
    have := HO6.out
    simpa [u8s] using this)
  clear HO6
  go_loopw [4] (fun s4 wr => ∃ (j m c9 : Nat) (A9 : Option Addr), j ≤ padLen k ∧ m ≤ 1000 ∧ s4 = .slice A9 m c9 ∧ Hid (m = k + 1 + j) ∧ Hid (Ow w1 wr 5 1 A9 m c9 (u8s (rs ++ [1] ++ List.replicate j 0)))) (fun s4 _ => 2000 - lenV s4)
  case atStart => exact ⟨0, k + 1, cc6, A6, Nat.zero_le _, by omega, rfl, Lib.hid rfl, I0⟩
  case round =>
    obtain ⟨j, m, c9, A9, hj, hm, rfl, Hm, HO⟩ := hrel
    by_cases hlt : j < padLen k
    · have hq1 : ((m : Int) % 32 == 24) = false := by
        have h1 := Hm.out
        unfold padLen at hlt
        rw [beq_eq_false_iff_ne]
        omega
      have hq2 : ((m : Int) % 32 != 24) = true := by rw [bne, hq1]; rfl
      have HO2 := Lib.hid (HO.out.alloc (.cells #[U8 0] 5))
      have HS6 := Lib.hid (sl_one wr 5 (U8 0))
      have z1 := Lib.hid (show m + 1 ≤ maxLen by simp only [maxLen]; omega)
      have z2 := Lib.hid (show (m + 1) * 1 ≤ 140737488355328 by omega)
      have Hlt := Lib.hid hlt
      clear hlt
      go_wp2_with (at_builtin; refine wpList_append_sl _ rfl (.tmp 36) (.tmp 37) _ rfl _ 5 i0 _ 1 1 Tryz.underlying27 hi0 hz0 hz1 hz2 rfl Nat.one_pos A9 m c9 _ rfl HO2.out _ 1 1 [U8 0] rfl HS6.out (by simp [Value.oneCell']) z1.out z2.out ?_; intro A6 cc6 w6 hO6 hg6 hat6; have HO6 := Lib.hid hO6; clear hO6 hg6 hat6)
      go_roundw
      case rel => exact ⟨j + 1, m + 1, cc6, A6, Hlt.out, by have h1 := Hm.out; have h2 := Hlt.out; unfold padLen at h2; omega, rfl, Lib.hid (by rw [Hm.out]; omega), Lib.hid (by
        have h1 := HO6.out
        rw [List.replicate_succ', ← List.append_assoc]
        simpa [u8s] using h1)⟩
      case measure => simp [lenV]; omega
    · obtain rfl : j = padLen k := by omega
      have hq1 : ((m : Int) % 32 == 24) = true := by
        have h1 := Hm.out
        unfold padLen at h1
        rw [beq_iff_eq]
        omega
      have hq2 : ((m : Int) % 32 != 24) = false := by rw [bne, hq1]; rfl
      clear hj hlt
      have r9 : wr.cell? ⟨p, 9, none⟩ = some (U64 N) := by rw [(HP1.out.step HO.out.2).cell 9]; exact run_at9 rfl
      have CL : Calls Tryz.prog 239 #[.slice A9 m c9, U64 N, .int .i64 8] wr fun e w' => ∃ A' c', e = .returned (.slice A' (m + 8) c') ∧ Ow w1 w' 5 1 A' (m + 8) c' (u8s (rs ++ [1] ++ List.replicate (padLen k) 0 ++ leBytes N 8)) := slaid_any w1 A9 m c9 _ N 8 wr HO.out hN (Nat.le_refl _) (by omega)
      have CL' := Lib.hid CL
      clear CL HO
      go_wp2_with (first
        | (go_at_call 239; refine CL'.out.mono ?_; rintro e w7 ⟨A7, c7, rfl, hO7⟩; have HO7 := Lib.hid hO7; clear hO7)
        | (at_builtin; refine wpList_append_zeros _ rfl (.tmp 45) (.const (.int .i64 32)) _ _ rfl w1 5 i0 .i64 Tryz.underlying27 Tryz.underlying3 hi0 hz0 hz1 hz2 A7 (m + 8) c7 _ 32 (by omega) (by omega) (by omega) rfl rfl HO7.out (by omega) ?_; intro A8 c8 w8 hO8; have HO8 := Lib.hid hO8; clear hO8))
      obtain ⟨T, hT⟩ : ∃ T, T = rs ++ padOf k N := ⟨_, rfl⟩
      have HT := Lib.hid hT
      have eT : rs ++ [1] ++ List.replicate (padLen k) 0 ++ leBytes N 8 ++ List.replicate 32 0 = T := by rw [hT]; simp [padOf]
      have hcap := HO8.out.cap
      have h8 := HO8.out
      rw [eT] at h8
      have I8 : Hid (EndI w g [a0, a1, a2, a3, a4, a5, a6, a7] T [a0, a1, a2, a3, a4, a5, a6, a7] T A8 (m + 8 + 32) c8 w8) := Lib.hid
        ⟨rfl, HL.out, rfl, E1.out.step h8.2, (h8.slT.weak (fun _ _ _ => trivial)), hcap, by have := Hm.out; unfold padLen at this; omega, bstep B1.out h8.2⟩
      clear hT eT hcap h8 HO8 HO7 CL' r9 hq1 hq2 Hm HL E1 HA1 HP1 B1
      go_loopw [4] (fun s4 wr => ∃ (m2 c9 : Nat) (A9 : Option Addr) (su : List Nat) (ts : List UInt8), m2 ≤ 2000 ∧ s4 = .slice A9 m2 c9 ∧ Hid (EndI w g [a0, a1, a2, a3, a4, a5, a6, a7] T su ts A9 m2 c9 wr)) (fun s4 _ => lenV s4)
      case atStart => exact ⟨m + 8 + 32, c8, A8, _, T, by omega, rfl, I8⟩
      case round =>
        obtain ⟨m2, c9, A9, su, ts, hm2, rfl, HI⟩ := hrel
        by_cases h0 : 0 < m2
        · have h32 : 32 ≤ m2 := by have := HI.out.mod; omega
          have kc : ∀ V : World, (Instr.slice 27 (.slice A9 m2 c9) none (some (.int .i64 32)) none).run Tryz.prog V = .ok (.slice (cutA A9 c9 0 1) 32 c9) V := fun V => run_cut_h (P := Tryz.prog) V Tryz.underlying27 Tryz.sizeU8 A9 m2 c9 .i64 32 (by have := HI.out.cap; omega)
          have kd : ∀ V : World, (Instr.slice 27 (.slice A9 m2 c9) (some (.int .i64 32)) none none).run Tryz.prog V = .ok (.slice (cutA A9 c9 32 1) (m2 - 32) (c9 - 32)) V := fun V => run_cut_l (P := Tryz.prog) V Tryz.underlying27 Tryz.sizeU8 A9 m2 c9 .i64 32 h32
          have hbig := absorb_big (by rw [u8s_len HI.out.row.sl]; exact h32 : 32 ≤ ts.length) su
          rw [takeB_take] at hbig
          have CT := stake_any wr g 329 su [] (cutA A9 c9 0 1) 32 c9 (ts.take 32) (by rw [List.append_nil]; exact HI.out.blk) HI.out.len HI.out.lt (HI.out.row.take_ h32 HI.out.cap.1) (by omega) (by omega) (by have := HI.out.cap; omega) (by decide)
          rw [takeB_take, List.append_nil] at CT
          have CT' := Lib.hid CT
          have Hbig := Lib.hid hbig
          have hm0 : decide (0 < m2) = true := decide_eq_true h0
          clear CT hbig
          go_wp2_with (go_at_call 238; refine CT'.out.mono ?_; rintro e w9 ⟨rfl, p9, f9⟩; have P9 := Lib.hid p9; have F9 := Lib.hid f9; clear p9 f9)
          go_roundw
          case rel =>
            refine ⟨m2 - 32, c9 - 32, cutA A9 c9 32 1, takeB su ts, ts.drop 32, by omega, rfl, Lib.hid ⟨by rw [takeB_len]; exact HI.out.len, takeB_lt HI.out.lt, by rw [← Hbig.out]; exact HI.out.eq, P9.out, ?_, ?_, ?_, ?_⟩⟩
            · exact (HI.out.row.keep (KeepT.of_fr F9.out (fun j cs fr e => by subst e; exact Blk.type HI.out.blk (by decide) cs fr))).drop_ h32 HI.out.cap.1
            · have := HI.out.cap; omega
            · have := HI.out.mod; omega
            · exact HI.out.below.trans (F9.out.below HI.out.below.size (fun j e => by rw [e, Hg.out]; exact Nat.le_refl _))
          case measure => simp [lenV]; omega
        · have hm0 : decide (0 < m2) = false := decide_eq_false h0
          have hts : ts = [] := List.eq_nil_of_length_eq_zero (by rw [u8s_len HI.out.row.sl]; omega)
          have heq := HI.out.eq
          rw [hts, absorb_small (by decide)] at heq
          have hsu : (absorb [a0, a1, a2, a3, a4, a5, a6, a7] T).1 = su := by rw [← heq]
          have hl := HI.out.len
          have hslt := HI.out.lt
          have HSu := Lib.hid hsu
          have hb := HI.out.blk
          have HBe := Lib.hid HI.out.below
          clear HI heq hts hsu h0
          obtain ⟨b0, b1, b2, b3, b4, b5, b6, b7, rfl⟩ := eight hl
          have HLs0 := Lib.hid hslt
          have l0 := hslt b0 (by simp)
          have l1 := hslt b1 (by simp)
          have l2 := hslt b2 (by simp)
          have l3 := hslt b3 (by simp)
          have l4 := hslt b4 (by simp)
          have l5 := hslt b5 (by simp)
          have l6 := hslt b6 (by simp)
          have l7 := hslt b7 (by simp)
          clear hslt
          have c0 : wr.cell? ⟨g, 0, none⟩ = some (U32 b0) := hb.cell 0
          have c1 : wr.cell? ⟨g, 1, none⟩ = some (U32 b1) := hb.cell 1
          have c2 : wr.cell? ⟨g, 2, none⟩ = some (U32 b2) := hb.cell 2
          have c3 : wr.cell? ⟨g, 3, none⟩ = some (U32 b3) := hb.cell 3
          have c4 : wr.cell? ⟨g, 4, none⟩ = some (U32 b4) := hb.cell 4
          have c5 : wr.cell? ⟨g, 5, none⟩ = some (U32 b5) := hb.cell 5
          have c6 : wr.cell? ⟨g, 6, none⟩ = some (U32 b6) := hb.cell 6
          have c7 : wr.cell? ⟨g, 7, none⟩ = some (U32 b7) := hb.cell 7
          clear hl hb
          go_wp2
          obtain ⟨wb, hwb⟩ : ∃ wb, wb = wr := ⟨_, rfl⟩
          have HWb := Lib.hid hwb
          have HBb : Hid (Below w.heap.size w wb) := Lib.hid (by rw [hwb]; exact HBe.out)
          have J0 : Hid (Ow wb wr 5 1 none 0 0 (u8s [])) := Lib.hid (by rw [hwb]; exact Ow.nil_ (Below.refl _ _))
          clear hwb c0 c1 c2 c3 c4 c5 c6 c7 hm0 I8 I0
          obtain ⟨lst, hlst⟩ : ∃ lst : List Nat, lst = [b0, b1, b2, b3, b4, b5, b6, b7] := ⟨_, rfl⟩
          have Hlst := Lib.hid hlst
          have HLs : Hid (∀ x ∈ lst, x < 4294967296) := Lib.hid (by rw [hlst]; exact HLs0.out)
          clear hlst
          go_loopw [5, 7, 56] (fun s5 _ s56 wr => ∃ (i c1 : Nat) (A1 : Option Addr), i ≤ 8 ∧ s56 = .int .i64 i ∧ s5 = .slice A1 (4 * i) c1 ∧ Hid (Ow wb wr 5 1 A1 (4 * i) c1 (u8s (((lst.take i).map (fun x => leBytes x 4)).flatten)))) (fun _ _ s56 _ => 8 - (intOf s56).toNat)
          case atStart => exact ⟨0, 0, none, by omega, rfl, rfl, Lib.hid (by simpa using J0.out)⟩
          case round =>
            obtain ⟨i, c1, A1, hi, rfl, rfl, HO⟩ := hrel
            by_cases hlt : i < 8
            · have CLa : Hid (∀ x, x < 4294967296 → Calls Tryz.prog 239 #[.slice A1 (4 * i) c1, U64 x, .int .i64 4] wr fun e w' => ∃ A' c', e = .returned (.slice A' (4 * i + 4) c') ∧ Ow wb w' 5 1 A' (4 * i + 4) c' (u8s ((((lst.take i).map (fun x => leBytes x 4)).flatten) ++ leBytes x 4))) := Lib.hid (fun x hx => slaid_any wb A1 (4 * i) c1 _ x 4 wr HO.out (by omega) (by omega) (by omega))
              have hxi : lst[i]? = some (lst.getD i 0) := by rw [List.getD_eq_getElem?_getD, List.getElem?_eq_getElem (by rw [Hlst.out]; exact hlt)]; rfl
              have kI : ∀ V : World, (Instr.index 329 (.agg #[U32 b0, U32 b1, U32 b2, U32 b3, U32 b4, U32 b5, U32 b6, U32 b7]) (.int .i64 (i : Int))).run Tryz.prog V = .ok (U32 (lst.getD i 0)) V := fun V => by
                have h1 := run_index_words (cs := lst) (by rw [Hlst.out]; rfl) i hlt V
                rw [show (u32s lst).toArray = #[U32 b0, U32 b1, U32 b2, U32 b3, U32 b4, U32 b5, U32 b6, U32 b7] by rw [Hlst.out]; rfl] at h1
                exact h1
              obtain ⟨x, hx⟩ : ∃ x, x = lst.getD i 0 := ⟨_, rfl⟩
              rw [← hx] at kI hxi
              have hxl : x < 4294967296 := HLs.out x (List.mem_of_getElem? hxi)
              have HR : Hid (((lst.take (i + 1)).map (fun x => leBytes x 4)).flatten = (((lst.take i).map (fun x => leBytes x 4)).flatten) ++ leBytes x 4) := Lib.hid (by rw [List.take_add_one, hxi]; simp)
              have CLx := Lib.hid (CLa.out x hxl)
              clear hx hxi CLa HO
              go_wp2_with (go_at_call 239; refine CLx.out.mono ?_; rintro e w7 ⟨A7, c7, rfl, hO7⟩; have HO7 := Lib.hid hO7; clear hO7)
              go_roundw
              case rel => exact ⟨i + 1, c7, A7, hlt, by go_num, by rw [show 4 * (i + 1) = 4 * i + 4 by omega], Lib.hid (by rw [HR.out, show 4 * (i + 1) = 4 * i + 4 by omega]; exact HO7.out)⟩
              case measure => simp [intOf]; omega
            · obtain rfl : i = 8 := by omega
              rw [List.take_of_length_le (by rw [Hlst.out]; exact Nat.le_refl _)] at HO
              have hcv := run_conv_str (P := Tryz.prog) wr 27 9 5 A1 (4 * 8) c1 _ Tryz.underlying27 Tryz.underlying5 Tryz.underlying9 HO.out.sl
              go_wp2
              go_ret
              refine ⟨by rw [← HT.out, HSu.out, Hlst.out]; rfl, HBb.out.trans (HO.out.2.mono HBb.out.size)⟩
set_option maxRecDepth 100000 in
set_option maxHeartbeats 1000000 in
/-- sum.Sum -/
theorem sum_any (w : World) (A : Option Addr) (n c : Nat) (l : List UInt8) (hA : SlT (fun _ => True) 5 w 1 A n (u8s l)) (hn : n ≤ 1000000000) :
    Calls Tryz.prog 110 #[.slice A n c] w fun e w' => e = .returned (S (sumL l)) ∧ Below w.heap.size w w' := by
  have HA := Lib.hid hA
  have hl : l.length = n := u8s_len hA.sl
  have Hl := Lib.hid hl
  have CN := Lib.hid (snew_any w)
  clear hA hl
  go_enter Tryz.func110, Tryz.ntmps110
  go_wp2_with fail
  refine CN.out.mono ?_
  rintro e w1 ⟨p, rfl, hp, hB, hb⟩
  have Hp := Lib.hid hp
  have HB := Lib.hid hb
  have CA := Lib.hid (sadd_any w1 p A n c l hB (HA.out.step hb) hn)
  clear hp hB hb CN
  go_wp2_with fail
  refine CA.out.mono ?_
  rintro e w2 ⟨rfl, hf, A', k', c', hr, h1, h2, hB2⟩
  have hk : (absorb firstS l).2.length = k' := u8s_len hr.sl
  have hk2 := absorb_rest l firstS
  have CE := Lib.hid (send_any w2 p (absorb firstS l).1 A' k' c' n (absorb firstS l).2 hB2 (by rw [absorb_len, firstS_len]) (absorb_lt l _ firstS_lt) hr (by omega) (by omega))
  have HB2 : Hid (Below w.heap.size w w2) := Lib.hid (HB.out.trans (hf.below HB.out.size (fun j e => by rw [e]; exact Hp.out)))
  have Hk := Lib.hid hk
  clear hf hr h1 h2 hB2 hk hk2 CA
  go_wp2_with fail
  refine CE.out.mono ?_
  rintro e w3 ⟨rfl, b3⟩
  have HB3 := Lib.hid (bstep HB2.out b3)
  clear b3 CE
  go_wp2
  go_ret
  refine ⟨?_, HB3.out⟩
  have e : sumL l = ((absorb (absorb firstS l).1 ((absorb firstS l).2 ++ padOf k' n)).1.map (fun x => leBytes x 4)).flatten := by
    show ((absorb (absorb firstS l).1 ((absorb firstS l).2 ++ padOf (absorb firstS l).2.length (l.length % 18446744073709551616))).1.map (fun x => leBytes x 4)).flatten = _
    rw [Hk.out, Hl.out, Nat.mod_eq_of_lt (by omega)]
  rw [e]
  rfl
end Go.Proofs.YtphnfcgdpdimbaaGreatDoor

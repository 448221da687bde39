/-
  sum.New, Add. Conditions: the bytes can be read, no more than 1000000000.
-/
import Derived.Test.YtphnfcgdpdimbaaGreatDoorSumTake
namespace Go.Proofs.YtphnfcgdpdimbaaGreatDoor
open Go.RowKit

theorem cutA_some {A : Option Addr} {b o c k : Nat} (h : A = some ⟨b, o, none⟩) : ∃ o', cutA A c k 1 = some ⟨b, o', none⟩ := by
  subst h
  unfold cutA
  split
  · exact ⟨o, rfl⟩
  · exact ⟨o + k, by simp [Addr.add]⟩
theorem SlT.drop_ {H : Nat → Prop} {e : TypeId} {w : World} {A : Option Addr} {n c k : Nat} {l : List UInt8} (h : SlT H e w 1 A n (u8s l)) (hk : k ≤ n) (hc : n ≤ c) : SlT H e w 1 (cutA A c k 1) (n - k) (u8s (l.drop k)) := by
  refine ⟨Sl.tail_ (f := U8) h.1 hk hc, fun hn => ?_⟩
  obtain ⟨b, o, cs, fr, e1, hH, hb⟩ := h.2 (by omega)
  obtain ⟨o', e2⟩ := cutA_some (c := c) (k := k) e1
  exact ⟨b, o', cs, fr, e2, hH, hb⟩
theorem SlT.take_ {H : Nat → Prop} {e : TypeId} {w : World} {A : Option Addr} {n c k : Nat} {l : List UInt8} (h : SlT H e w 1 A n (u8s l)) (hk : k ≤ n) (hc : n ≤ c) : SlT H e w 1 (cutA A c 0 1) k (u8s (l.take k)) := by
  refine ⟨Sl.head_ (f := U8) h.1 hk hc, fun hn => ?_⟩
  obtain ⟨b, o, cs, fr, e1, hH, hb⟩ := h.2 (by omega)
  obtain ⟨o', e2⟩ := cutA_some (c := c) (k := 0) e1
  exact ⟨b, o', cs, fr, e2, hH, hb⟩
/-- a run's cells behind its state's words -/
abbrev runT (A : Option Addr) (k c N : Nat) : List Value := [.slice A k c, U64 N, .bool true]
theorem firstS_lit : firstS = [2654435769, 1013904242, 3668340011, 2027808484, 387276957, 3041712726, 1401181199, 4055616968] := by decide
set_option maxRecDepth 100000 in
set_option maxHeartbeats 1000000 in
theorem snew_any (w : World) : Calls Tryz.prog 176 #[] w fun e w' => ∃ p, e = .returned (.pointer (some ⟨p, 0, none⟩)) ∧ w.heap.size ≤ p ∧ Blk w' p 332 (u32s firstS ++ runT none 0 0 0).toArray ∧ Below w.heap.size w w' := by
  have C := first_any w
  rw [firstS_lit] at C ⊢
  simp only [u32s, List.map_cons, List.map_nil, List.cons_append, List.nil_append] at C ⊢
  have C' := Lib.hid C
  clear C
  go_enter Tryz.func176, Tryz.ntmps176
  go_wp2_with (go_at_call 237; refine C'.out.mono ?_; rintro e w1 ⟨rfl, b1⟩; have B1 := Lib.hid b1; clear b1)
  go_ret
  exact ⟨w1.heap.size, rfl, B1.out.size, Blk.new w1 _ _, balloc B1.out _⟩
/-- how long the slice in a block's cell is -/
def lenAt8 (w : World) (p : Nat) : Nat := match w.cell? ⟨p, 8, none⟩ with
  | some (.slice _ n _) => n
  | _ => 0
theorem run_at8 {st : List Nat} {v : Value} {r : List Value} (h : st.length = 8) : (u32s st ++ v :: r).toArray[8]? = some v := by
  rw [List.getElem?_toArray, List.getElem?_append_right (by simp [h])]
  simp [h]
theorem run_at9 {st : List Nat} {v u : Value} {r : List Value} (h : st.length = 8) : (u32s st ++ v :: u :: r).toArray[9]? = some u := by
  rw [List.getElem?_toArray, List.getElem?_append_right (by simp [h])]
  simp [h]
theorem run_at10 {st : List Nat} {v u x : Value} {r : List Value} (h : st.length = 8) : (u32s st ++ v :: u :: x :: r).toArray[10]? = some x := by
  rw [List.getElem?_toArray, List.getElem?_append_right (by simp [h])]
  simp [h]
theorem run_set8 {st : List Nat} {v u : Value} {r : List Value} (h : st.length = 8) : (u32s st ++ v :: r).toArray.setIfInBounds 8 u = (u32s st ++ u :: r).toArray := by
  simp only [List.setIfInBounds_toArray]
  rw [List.set_append_right _ _ (by simp [h])]
  simp [h]
theorem run_set9 {st : List Nat} {v u x : Value} {r : List Value} (h : st.length = 8) : (u32s st ++ v :: x :: r).toArray.setIfInBounds 9 u = (u32s st ++ v :: u :: r).toArray := by
  simp only [List.setIfInBounds_toArray]
  rw [List.set_append_right _ _ (by simp [h])]
  simp [h]
theorem absorb_big {b : List UInt8} (h : 32 ≤ b.length) (s : List Nat) : absorb s b = absorb (takeB s (b.take 32)) (b.drop 32) := by rw [absorb, dif_pos h]
theorem num4_take (l : List UInt8) (i : Nat) (h : i + 3 < 32) : num4 (l.take 32) i = num4 l i := by
  simp only [num4, List.getD_eq_getElem?_getD, List.getElem?_take]
  rw [if_pos (by omega), if_pos (by omega), if_pos (by omega), if_pos (by omega)]
theorem takeB_take (s : List Nat) (l : List UInt8) : takeB s (l.take 32) = takeB s l := by
  unfold takeB
  rw [show wordsOf (l.take 32) = wordsOf l from by
    unfold wordsOf
    refine List.map_congr_left fun i hi => num4_take l (4 * i) ?_
    have := List.mem_range.1 hi
    omega]
theorem takeB_lt {s : List Nat} {b : List UInt8} (h : ∀ x ∈ s, x < 4294967296) : ∀ x ∈ takeB s b, x < 4294967296 := stepsW_lt h _
theorem firstS_lt : ∀ x ∈ firstS, x < 4294967296 := by decide
theorem lenAt8_of {w : World} {p : Nat} {T : TypeId} {st : List Nat} {A : Option Addr} {n c : Nat} {r : List Value} (hs : st.length = 8) (h : Blk w p T (u32s st ++ .slice A n c :: r).toArray) : lenAt8 w p = n := by
  unfold lenAt8
  rw [h.cell 8, run_at8 hs]
/-- a run while it takes whole blocks -/
structure AddI (w : World) (p n : Nat) (l : List UInt8) (st : List Nat) (A : Option Addr) (k c : Nat) (rs : List UInt8) (W : World) : Prop where
  len : st.length = 8
  lt : ∀ x ∈ st, x < 4294967296
  eq : absorb st rs = absorb firstS l
  blk : Blk W p 332 (u32s st ++ runT A k c n).toArray
  row : SlT (fun _ => True) 5 W 1 A k (u8s rs)
  cap : k ≤ c ∧ c ≤ maxLen
  fr : Fr (fun k => k = p) w W
set_option maxRecDepth 100000 in
set_option maxHeartbeats 2000000 in
theorem sadd_any (w : World) (p : Nat) (A : Option Addr) (n c : Nat) (l : List UInt8) (hp : Blk w p 332 (u32s firstS ++ runT none 0 0 0).toArray) (hA : SlT (fun _ => True) 5 w 1 A n (u8s l)) (hn : n ≤ 1000000000) :
    Calls Tryz.prog 177 #[.pointer (some ⟨p, 0, none⟩), .slice A n c] w fun e w' => e = .returned (.tuple #[]) ∧ Fr (fun k => k = p) w w' ∧ ∃ A' k' c', SlT (fun _ => True) 5 w' 1 A' k' (u8s (absorb firstS l).2) ∧ k' ≤ c' ∧ c' ≤ maxLen ∧ Blk w' p 332 (u32s (absorb firstS l).1 ++ runT A' k' c' n).toArray := by
  obtain ⟨i0, hi0, hz0, hz1, hz2⟩ := info_parts Tryz.infoU8
  have HP := Lib.hid hp
  have HA := Lib.hid hA
  have r8 : w.cell? ⟨p, 8, none⟩ = some (.slice none 0 0) := by rw [hp.cell 8]; exact run_at8 firstS_len
  have r9 : w.cell? ⟨p, 9, none⟩ = some (U64 0) := by rw [hp.cell 9]; exact run_at9 firstS_len
  have r10 : w.cell? ⟨p, 10, none⟩ = some (.bool true) := by rw [hp.cell 10]; exact run_at10 firstS_len
  have rf := hp.frozen
  obtain ⟨w1, hw1⟩ : ∃ w1, w1 = w.setCell ⟨p, 9, none⟩ (U64 n) := ⟨_, rfl⟩
  have p1 : Blk w1 p 332 (u32s firstS ++ runT none 0 0 n).toArray := by
    have h1 := hp.set_ 9 (U64 n)
    rw [run_set9 firstS_len] at h1
    rw [hw1]
    exact h1
  have hA1 : SlT (fun _ => True) 5 w1 1 A n (u8s l) := by rw [hw1]; exact hA.keep ((KeepT.refl _ w).setCell hp (by decide) rfl _)
  have f1 : Fr (fun k => k = p) w w1 := by rw [hw1]; exact (Fr.refl (fun k => k = p) w).setCell rfl _
  have s8 : w1.cell? ⟨p, 8, none⟩ = some (.slice none 0 0) := by rw [p1.cell 8]; exact run_at8 firstS_len
  have HA1 := Lib.hid hA1
  have P1 := Lib.hid p1
  have F1 := Lib.hid f1
  have hnn : IntKind.u64.wrap (n : Int) = (n : Int) := wrapN64 n (by omega)
  have q1 := Lib.hid (show 0 + n ≤ maxLen by simp only [maxLen]; omega)
  have q2 := Lib.hid (show (0 + n) * 1 ≤ 140737488355328 by omega)
  have q3 := Lib.hid (Ow.nil_ (e := 5) (sz := 1) (Below.refl w1.heap.size w1))
  clear hp hA hA1 p1 f1
  go_enter Tryz.func177, Tryz.ntmps177
  subst hw1
  go_wp2_with (at_builtin; refine wpList_append_sl _ rfl (.tmp 32) (.tmp 33) _ rfl (w.setCell ⟨p, 9, none⟩ (U64 n)) 5 i0 _ 1 1 Tryz.underlying27 hi0 hz0 hz1 hz2 rfl Nat.one_pos none 0 0 [] rfl q3.out A n c (u8s l) rfl HA1.out.sl (one_u8s l) q1.out q2.out ?_; intro A5 c5 w5 hO5 hg5 hat5; have HO5 := Lib.hid hO5; clear hO5 hg5 hat5; have e5 := P1.out.step HO5.out.2; have t8 : w5.cell? ⟨p, 8, none⟩ = some (.slice none 0 0) := (by rw [e5.cell 8]; exact run_at8 firstS_len); have tf := e5.frozen; have E5 := Lib.hid e5; clear e5)
  have hcap := HO5.out.cap
  have h6 := E5.out.set_ 8 (.slice A5 (0 + n) c5)
  rw [run_set8 firstS_len] at h6
  have I0 : Hid (AddI w p n l firstS A5 (0 + n) c5 l (w5.setCell ⟨p, 8, none⟩ (.slice A5 (0 + n) c5))) := Lib.hid
    ⟨firstS_len, firstS_lt, rfl, h6, (((HO5.out.slT).weak (fun _ _ _ => trivial)).keep ((KeepT.refl _ w5).setCell E5.out (by decide) rfl _)), hcap, (F1.out.trans (.of_below HO5.out.2)).setCell rfl _⟩
  rw [Nat.zero_add] at I0
  have hn0 := hn
  clear t8 tf hcap h6 E5 HO5 s8 P1 HA1 F1 q1 q2 q3
  go_loopw [37] (fun _ wr => ∃ (st : List Nat) (A1 : Option Addr) (k c1 : Nat) (rs : List UInt8), k ≤ 1000000000 ∧ Hid (AddI w p n l st A1 k c1 rs wr)) (fun _ wr => lenAt8 wr p)
  case atStart => exact ⟨firstS, A5, n, c5, l, hn0, I0⟩
  case round =>
    obtain ⟨st, A1, k, c1, rs, hk, HI⟩ := hrel
    have c8 : wr.cell? ⟨p, 8, none⟩ = some (.slice A1 k c1) := by rw [HI.out.blk.cell 8]; exact run_at8 HI.out.len
    have cf := HI.out.blk.frozen
    by_cases h32 : 32 ≤ k
    · have kc : ∀ V : World, (Instr.slice 27 (.slice A1 k c1) none (some (.int .i64 32)) none).run Tryz.prog V = .ok (.slice (cutA A1 c1 0 1) 32 c1) V := fun V => run_cut_h (P := Tryz.prog) V Tryz.underlying27 Tryz.sizeU8 A1 k c1 .i64 32 (by have := HI.out.cap; omega)
      have kd : ∀ V : World, (Instr.slice 27 (.slice A1 k c1) (some (.int .i64 32)) none none).run Tryz.prog V = .ok (.slice (cutA A1 c1 32 1) (k - 32) (c1 - 32)) V := fun V => run_cut_l (P := Tryz.prog) V Tryz.underlying27 Tryz.sizeU8 A1 k c1 .i64 32 h32
      have hlen : rs.length = k := u8s_len HI.out.row.sl
      have hbig := absorb_big (by omega : 32 ≤ rs.length) st
      rw [takeB_take] at hbig
      have CT := stake_any wr.drew p 332 st (runT A1 k c1 n) (cutA A1 c1 0 1) 32 c1 (rs.take 32) HI.out.blk.drew HI.out.len HI.out.lt ((HI.out.row.take_ h32 HI.out.cap.1).step (Below.refl _ wr).drew) (by omega) (by omega) (by have := HI.out.cap; omega) (by decide)
      rw [takeB_take] at CT
      have CT' := Lib.hid CT
      have Hbig := Lib.hid hbig
      have Hlen := Lib.hid hlen
      clear CT hbig hlen
      go_wp2
      go_still_tail 8, (by kernel_rfl)
      change wpList _ _ _ _ _ wr.drew
      go_wp2_with fail
      refine CT'.out.mono ?_
      rintro e w2 ⟨rfl, p2, f2'⟩
      have f2 : Fr (fun k => k = p) wr w2 := ((Fr.refl _ wr).drew).trans f2'
      clear f2'
      have kk2 : KeepT 5 wr w2 := KeepT.of_fr f2 (fun j cs fr e => by subst e; exact Blk.type HI.out.blk (by decide) cs fr)
      have d8 : w2.cell? ⟨p, 8, none⟩ = some (.slice A1 k c1) := by rw [p2.cell 8]; exact run_at8 (by rw [takeB_len]; exact HI.out.len)
      have df := p2.frozen
      have P2 := Lib.hid p2
      have F2 : Hid (Fr (fun k => k = p) wr w2) := Lib.hid f2
      have K2 := Lib.hid kk2
      clear p2 f2 kk2 c8 cf CT' kc
      go_wp2
      go_roundw
      case rel =>
        have h8 := P2.out.set_ 8 (.slice (cutA A1 c1 32 1) (k - 32) (c1 - 32))
        rw [run_set8 (by rw [takeB_len]; exact HI.out.len)] at h8
        refine ⟨takeB st rs, _, k - 32, c1 - 32, rs.drop 32, by omega, Lib.hid ⟨by rw [takeB_len]; exact HI.out.len, takeB_lt HI.out.lt, by rw [← Hbig.out]; exact HI.out.eq, h8, ?_, ?_, ?_⟩⟩
        · exact ((HI.out.row.keep K2.out).drop_ h32 HI.out.cap.1).keep ((KeepT.refl _ w2).setCell P2.out (by decide) rfl _)
        · have := HI.out.cap; omega
        · exact (HI.out.fr.trans F2.out).setCell rfl _
      case measure =>
        have h8 := P2.out.set_ 8 (.slice (cutA A1 c1 32 1) (k - 32) (c1 - 32))
        rw [run_set8 (by rw [takeB_len]; exact HI.out.len)] at h8
        rw [lenAt8_of HI.out.len HI.out.blk, lenAt8_of (by rw [takeB_len]; exact HI.out.len) h8]
        omega
    · go_wp2
      exact ⟨rfl, .tuple #[], results_none rfl _ _ _, rfl, HI.out.fr, by
        have hr : rs.length = k := u8s_len HI.out.row.sl
        have h1 := HI.out.eq
        rw [absorb_small (by omega)] at h1
        refine ⟨A1, k, c1, ?_, HI.out.cap.1, HI.out.cap.2, ?_⟩
        · rw [← h1]; exact HI.out.row
        · rw [← h1]; exact HI.out.blk⟩
end Go.Proofs.YtphnfcgdpdimbaaGreatDoor

/-
  A block is taken. Conditions: the state's words lie at a block's head; 32 bytes at least can be read.
-/
import Derived.Test.YtphnfcgdpdimbaaGreatDoorSumWalk
import Derived.Test.YtphnfcgdpdimbaaGreatDoorKitW
import Derived.Deep.QuietTactic
import Derived.BigQuiet
import Derived.IntWalk
import Derived.StillTailTactics
namespace Go.Proofs.YtphnfcgdpdimbaaGreatDoor
open Go.RowKit

/-- the first k words -/
def wordK (l : List UInt8) (k : Nat) : List Nat := (List.range 8).map fun j => if j < k then num4 l (4 * j) else 0
theorem wordK_len (l : List UInt8) (k : Nat) : (wordK l k).length = 8 := by simp [wordK]
theorem wordK_step {l : List UInt8} {k : Nat} (h : k < 8) : (wordK l k).set k (num4 l (4 * k)) = wordK l (k + 1) := by
  rcases (by omega : k = 0 ∨ k = 1 ∨ k = 2 ∨ k = 3 ∨ k = 4 ∨ k = 5 ∨ k = 6 ∨ k = 7) with rfl | rfl | rfl | rfl | rfl | rfl | rfl | rfl <;> rfl
theorem wordK_all (l : List UInt8) : wordK l 8 = wordsOf l := rfl
theorem stepW_lt {W : List Nat} {r i : Nat} {s : List Nat} (h : ∀ x ∈ s, x < 4294967296) : ∀ x ∈ stepW W r i s, x < 4294967296 := by
  intro x hx
  rcases List.mem_or_eq_of_mem_set hx with h1 | rfl
  · exact h x h1
  · exact Nat.mod_lt _ (by decide)
theorem stepsW_lt {W s : List Nat} (h : ∀ x ∈ s, x < 4294967296) : ∀ k, ∀ x ∈ stepsW W s k, x < 4294967296
  | 0 => h
  | k + 1 => stepW_lt (stepsW_lt h k)
theorem getD_lt {s : List Nat} (h : ∀ x ∈ s, x < 4294967296) (i : Nat) : s.getD i 0 < 4294967296 := by
  rw [List.getD_eq_getElem?_getD]
  rcases hi : s[i]? with _ | x
  · simp
  · exact h x (List.mem_of_getElem? hi)
theorem num4_lt (l : List UInt8) (i : Nat) : num4 l i < 4294967296 := by
  have h0 := (l.getD i 0).toNat_lt
  have h1 := (l.getD (i + 1) 0).toNat_lt
  have h2 := (l.getD (i + 2) 0).toNat_lt
  have h3 := (l.getD (i + 3) 0).toNat_lt
  unfold num4
  omega
theorem num4_drop (l : List UInt8) (i : Nat) : num4 (l.drop i) 0 = num4 l i := by
  simp [num4, List.getD_eq_getElem?_getD, List.getElem?_drop]
theorem run_cut_n {P : Program} (w : World) {t e : TypeId} (ht : P.underlying t = some (.slice e)) (hz : ∀ w, (sizeOf e).run P w = .ok 1 w) (A : Option Addr) (n c j : Nat) (z : Int) (hz2 : z = (j : Int)) (h1 : j ≤ n) :
    (Instr.slice t (.slice A n c) (some (.int .i64 z)) none none).run P w = .ok (.slice (cutA A c j 1) (n - j) (c - j)) w := by
  subst hz2
  exact run_cut_l w ht hz A n c .i64 j h1
set_option maxRecDepth 100000 in
set_option maxHeartbeats 2000000 in
theorem stake_any (w : World) (p : Nat) (T : TypeId) (s : List Nat) (rest : List Value) (A : Option Addr) (n c : Nat) (l : List UInt8) (hp : Blk w p T (u32s s ++ rest).toArray) (hs : s.length = 8) (hlt : ∀ x ∈ s, x < 4294967296) (hA : SlT (fun _ => True) 5 w 1 A n (u8s l)) (hn : 32 ≤ n) (hn2 : n ≤ 1000000000) (hnc : n ≤ c) (_hT : T ≠ 5) :
    Calls Tryz.prog 238 #[.pointer (some ⟨p, 0, none⟩), .slice A n c] w fun e w' => e = .returned (.tuple #[]) ∧ Blk w' p T (u32s (takeB s l) ++ rest).toArray ∧ Fr (fun k => k = p) w w' := by
  obtain ⟨g, hg⟩ : ∃ g, g = w.heap.size := ⟨_, rfl⟩
  obtain ⟨w1, hw1⟩ : ∃ w1, w1 = w.alloc (.cells (u32s (wordK l 0)).toArray 328) := ⟨_, rfl⟩
  have e1 : Blk w1 g 328 (u32s (wordK l 0)).toArray := by rw [hw1, hg]; exact Blk.new w _ _
  have b1 : Below w.heap.size w w1 := by rw [hw1]; exact balloc (Below.refl _ w) _
  have HP := Lib.hid hp
  have HA := Lib.hid hA
  have HL := Lib.hid hlt
  have Hs := Lib.hid hs
  have E1 := Lib.hid e1
  have B1 := Lib.hid b1
  have Hg := Lib.hid hg
  clear hp hA hlt hs e1 b1
  go_enter Tryz.func238, Tryz.ntmps238
  go_wp2
  rw [show w.alloc (.cells #[.int .u32 0, .int .u32 0, .int .u32 0, .int .u32 0, .int .u32 0, .int .u32 0, .int .u32 0, .int .u32 0] 328) = w1 from hw1.symm]
  simp only [← hg]
  clear hw1 hg
  go_loopw [5, 9] (fun _ i wr => ∃ k : Nat, k ≤ 8 ∧ i = .int .i64 k ∧ Hid (Blk wr g 328 (u32s (wordK l k)).toArray) ∧ Hid (Below g w wr)) (fun _ i _ => 8 - (intOf i).toNat)
  case atStart => exact ⟨0, by omega, rfl, E1, Lib.hid (by rw [Hg.out]; exact B1.out)⟩
  case round =>
    obtain ⟨k, hk, rfl, H1, HB⟩ := hrel
    by_cases hlt : k < 8
    · have ef := H1.out.frozen
      have ek : wr.cell? ⟨g, k, none⟩ = some (U32 ((wordK l k).getD k 0)) := by
        rw [H1.out.cell k]
        have h1 := u32s_at (s := wordK l k) (r := []) (i := k) (by rw [wordK_len]; exact hlt)
        rwa [List.append_nil] at h1
      have kc := run_cut_n (P := Tryz.prog) wr Tryz.underlying27 Tryz.sizeU8 A n c (4 * k) (4 * (k : Int)) (by omega) (by omega)
      have hS : Sl wr 1 (cutA A c (4 * k) 1) (n - 4 * k) (u8s (l.drop (4 * k))) := (HA.out.sl.below (by rw [← Hg.out]; exact HB.out)).tail_ (by omega) hnc
      have CN := number4_any (cutA A c (4 * k) 1) (n - 4 * k) (c - 4 * k) (l.drop (4 * k)) wr hS (by omega) (by omega)
      rw [num4_drop] at CN
      have CN' := Lib.hid CN
      have hq := num4_lt l (4 * k)
      clear CN hS
      go_wp2_with (go_at_call 291; refine CN'.out.mono ?_; rintro e w' ⟨rfl, h⟩; obtain rfl := h.symm; clear h)
      go_roundw
      case rel =>
        have h1 := H1.out.set_ k (U32 (num4 l (4 * k)))
        have h2 := u32s_set (wordK l k) k (num4 l (4 * k)) []
        rw [List.append_nil, if_pos (by rw [wordK_len]; exact hlt), wordK_step hlt, List.append_nil] at h2
        rw [h2] at h1
        exact ⟨k + 1, hlt, by go_num, Lib.hid h1, Lib.hid (HB.out.setCell (p := ⟨g, k, none⟩) (Nat.le_refl g) _)⟩
      case measure => simp [intOf]; omega
    · obtain rfl : k = 8 := by omega
      rw [wordK_all] at H1
      obtain ⟨W, hW⟩ : ∃ W, W = wordsOf l := ⟨_, rfl⟩
      have HW := Lib.hid hW
      rw [← hW] at H1
      have HP2 := Lib.hid (HP.out.step (by rw [← Hg.out]; exact HB.out))
      have HF2 : Hid (Fr (fun k => k = p) w wr) := Lib.hid (.of_below (by rw [← Hg.out]; exact HB.out))
      have hgp : g ≠ p := fun e => by have := HP.out.lt; rw [← e, Hg.out] at this; omega
      have Hgp := Lib.hid hgp
      have HWl : Hid (W.length = 8) := Lib.hid (by rw [hW]; simp [wordsOf])
      have HWb : Hid (∀ x ∈ W, x < 4294967296) := Lib.hid (by rw [hW]; intro x hx; obtain ⟨i, _, rfl⟩ := List.mem_map.1 hx; exact num4_lt l _)
      have H1g := H1
      clear hW hgp H1 HB HA E1 B1
      simp only [Int.cast_ofNat_Int]
      go_wp2
      go_loopw [6, 7, 8, 21, 24] (fun _ _ _ s21 _ wr => ∃ r : Nat, r ≤ 8 ∧ s21 = .int .i64 r ∧ Hid (Blk wr g 328 (u32s W).toArray) ∧ Hid (Blk wr p T (u32s (stepsW W s (8 * r)) ++ rest).toArray) ∧ Hid (Fr (fun k => k = p) w wr)) (fun _ _ _ s21 _ _ => 8 - (intOf s21).toNat)
      case atStart => exact ⟨0, by omega, rfl, H1g, HP2, HF2⟩
      case round =>
        obtain ⟨r, hr, rfl, G1, P1, F1⟩ := hrel
        by_cases hlt : r < 8
        · have hd22 : decide ((r : Int) < 8) = true := decide_eq_true (by omega)
          go_wp2
          go_loopw [7, 8, 24] (fun _ _ s24 wr => ∃ j : Nat, j ≤ 8 ∧ s24 = .int .i64 j ∧ Hid (Blk wr g 328 (u32s W).toArray) ∧ Hid (Blk wr p T (u32s (stepsW W s (8 * r + j)) ++ rest).toArray) ∧ Hid (Fr (fun k => k = p) w wr)) (fun _ _ s24 _ => 8 - (intOf s24).toNat)
          case atStart => exact ⟨0, by omega, rfl, G1, P1, F1⟩
          case round =>
            obtain ⟨j, hj, rfl, G2, P2, F2⟩ := hrel
            by_cases hlt2 : j < 8
            · obtain ⟨st, hst⟩ : ∃ st, st = stepsW W s (8 * r + j) := ⟨_, rfl⟩
              have Hst := Lib.hid hst
              have hsl : st.length = 8 := by rw [hst, stepsW_len]; exact Hs.out
              have hsb : ∀ x ∈ st, x < 4294967296 := by rw [hst]; exact stepsW_lt HL.out _
              rw [← hst] at P2
              obtain ⟨m, hm⟩ : ∃ m, m = (j + r) % 8 := ⟨_, rfl⟩
              obtain ⟨m2, hm2⟩ : ∃ m2, m2 = (j + 1) % 8 := ⟨_, rfl⟩
              obtain ⟨a, ha⟩ : ∃ a, a = st.getD j 0 := ⟨_, rfl⟩
              obtain ⟨b, hb⟩ : ∃ b, b = W.getD m 0 := ⟨_, rfl⟩
              obtain ⟨d, hd⟩ : ∃ d, d = st.getD m2 0 := ⟨_, rfl⟩
              have ca : wr.cell? ⟨p, j, none⟩ = some (U32 a) := by rw [P2.out.cell j, u32s_at (by rw [hsl]; exact hlt2), ← ha]
              have cb : wr.cell? ⟨g, m, none⟩ = some (U32 b) := by
                rw [G2.out.cell m]
                have h1 := u32s_at (s := W) (r := []) (i := m) (by rw [HWl.out, hm]; omega)
                rw [List.append_nil] at h1
                rw [h1, ← hb]
              have cd : wr.cell? ⟨p, m2, none⟩ = some (U32 d) := by rw [P2.out.cell m2, u32s_at (by rw [hsl, hm2]; omega), ← hd]
              have cf := P2.out.frozen
              have hal : a < 4294967296 := by rw [ha]; exact getD_lt hsb j
              have hbl : b < 4294967296 := by rw [hb]; exact getD_lt HWb.out m
              have hdl : d < 4294967296 := by rw [hd]; exact getD_lt hsb m2
              have hxl : a ^^^ b < 4294967296 := Nat.xor_lt_two_pow (n := 32) hal hbl
              have hxo := xor32 a b hal hbl
              have CR := rot_any (a ^^^ b) (5 + 3 * j)
              have e1 : IntKind.i64.wrap ((j : Int) + (r : Int)) = (j : Int) + (r : Int) := IntWalk.i64_in _ (by omega)
              have e2 : ((j : Int) + (r : Int)).tmod 8 = (m : Int) := by rw [Int.tmod_eq_emod_of_nonneg (by omega)]; omega
              have e3 : IntKind.i64.wrap (3 * (j : Int)) = 3 * (j : Int) := IntWalk.i64_in _ (by omega)
              have e4 : IntKind.i64.wrap (5 + 3 * (j : Int)) = 5 + 3 * (j : Int) := IntWalk.i64_in _ (by omega)
              have CR' : Hid (∀ W', Calls Tryz.prog 292 #[U32 (a ^^^ b), I (5 + 3 * (j : Int))] W' fun e w' => e = .returned (U32 (rot32 (a ^^^ b) (5 + 3 * j))) ∧ w' = W') := Lib.hid (fun W' => by
                have := CR W' hxl (by omega) (by omega)
                simpa using this)
              have hm8 : (m : Int) < 8 := by omega
              have hm28 : (m2 : Int) < 8 := by omega
              have Hmm := Lib.hid (And.intro hm hm2)
              have Ha := Lib.hid ha
              have Hb := Lib.hid hb
              have Hd := Lib.hid hd
              clear hm hm2 ha hb hd hst CR
              go_wp2
              go_quiet ((go_at_call 292; exact Calls.quiet_of_same (CR'.out _)))
              have e5 : IntKind.i64.wrap ((j : Int) + 1) = (j : Int) + 1 := IntWalk.i64_in _ (by omega)
              have e6 : ((j : Int) + 1).tmod 8 = (m2 : Int) := by rw [Int.tmod_eq_emod_of_nonneg (by omega)]; have := Hmm.out.2; omega
              obtain ⟨X, hX⟩ : ∃ X, X = rot32 (a ^^^ b) (5 + 3 * j) := ⟨_, rfl⟩
              have HX := Lib.hid hX
              rw [← hX]
              clear hX CR' e2 e3 e4 hxo cb
              obtain ⟨wq, hwq⟩ : ∃ wq, wq = wr.drewN nq := ⟨_, rfl⟩
              have P3 : Hid (Blk wq p T (u32s st ++ rest).toArray) := Lib.hid (by rw [hwq]; exact P2.out.drewN nq)
              have G3 : Hid (Blk wq g 328 (u32s W).toArray) := Lib.hid (by rw [hwq]; exact G2.out.drewN nq)
              have F3 : Hid (Fr (fun k => k = p) w wq) := Lib.hid (by rw [hwq]; exact F2.out.drewN nq)
              have da : wq.cell? ⟨p, j, none⟩ = some (U32 a) := by rw [hwq]; exact ca
              have dd : wq.cell? ⟨p, m2, none⟩ = some (U32 d) := by rw [hwq]; exact cd
              have df := P3.out.frozen
              rw [← hwq]
              clear hwq ca cd cf
              go_wp2
              go_still_tail 19, (by kernel_rfl)
              change wpList _ _ _ _ _ wq.drew
              obtain ⟨wz, hwz⟩ : ∃ wz, wz = wq.drew := ⟨_, rfl⟩
              have P4 : Hid (Blk wz p T (u32s st ++ rest).toArray) := Lib.hid (by rw [hwz]; exact P3.out.drew)
              have G4 : Hid (Blk wz g 328 (u32s W).toArray) := Lib.hid (by rw [hwz]; exact G3.out.drew)
              have F4 : Hid (Fr (fun k => k = p) w wz) := Lib.hid (by rw [hwz]; exact F3.out.drew)
              have dz : wz.cell? ⟨p, j, none⟩ = some (U32 a) := by rw [hwz]; exact da
              have zf := P4.out.frozen
              rw [← hwz]
              clear hwz da dd df e1 e5 e6
              go_wp2
              go_roundw
              case rel =>
                have h1 := P4.out.set_ j (U32 ((X + d * 2246822507 + (j + r)) % 4294967296))
                have h2 := u32s_set st j ((X + d * 2246822507 + (j + r)) % 4294967296) rest
                rw [if_pos (by rw [hsl]; exact hlt2)] at h2
                rw [h2] at h1
                have h3 : st.set j ((X + d * 2246822507 + (j + r)) % 4294967296) = stepsW W s (8 * r + (j + 1)) := by
                  show _ = stepW W ((8 * r + j) / 8) ((8 * r + j) % 8) (stepsW W s (8 * r + j))
                  rw [← Hst.out]
                  unfold stepW
                  rw [show (8 * r + j) / 8 = r by omega, show (8 * r + j) % 8 = j by omega, HX.out, Ha.out, Hb.out, Hd.out, Hmm.out.1, Hmm.out.2]
                rw [h3] at h1
                have em : ((X : Int) + (d : Int) * 2246822507 + ((j : Int) + (r : Int))) % 4294967296 = (((X + d * 2246822507 + (j + r)) % 4294967296 : Nat) : Int) := by omega
                rw [em]
                exact ⟨j + 1, hlt2, by go_num, Lib.hid (G4.out.far (by exact Hgp.out) _), Lib.hid h1, Lib.hid (F4.out.setCell (p := ⟨p, j, none⟩) rfl _)⟩
              case measure => simp [intOf]; omega
            · obtain rfl : j = 8 := by omega
              go_wp2
              go_roundw
              case rel => exact ⟨r + 1, hlt, by go_num, G2, Lib.hid (by rw [show 8 * (r + 1) = 8 * r + 8 by omega]; exact P2.out), F2⟩
              case measure => simp [intOf]; omega
        · obtain rfl : r = 8 := by omega
          go_wp2
          exact ⟨rfl, .tuple #[], results_none rfl _ _ _, rfl, by have h1 := P1.out; rw [HW.out] at h1; exact h1, F1.out⟩
end Go.Proofs.YtphnfcgdpdimbaaGreatDoor

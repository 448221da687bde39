/-
  strings.LastIndex at "/" (only that it lies in the text), work.Same. Conditions: the disk and the index lie in memory; the path is no longer than 2147483648 bytes; MaxLen holds an int.
-/
import Derived.Test.YtphnfcgdpdimbaaGreatDoorWorkClobber
import Derived.Test.YtphnfcgdpdimbaaGreatDoorKitJ
import Derived.MapKept
namespace Go.Proofs.YtphnfcgdpdimbaaGreatDoor
open Go.RowKit
open IdxLaw (Ent)

set_option maxHeartbeats 1000000 in
theorem lastByte_any (s : List UInt8) (c : UInt8) (w : World) (hs : s.length ≤ 2147483648) :
    Calls Tryz.prog 120 #[S s, U8 c] w fun e w' => ∃ i : Int, e = .returned (I i) ∧ -1 ≤ i ∧ i < s.length ∧ w' = w := by
  go_enter Tryz.func120, Tryz.ntmps120
  go_wp2
  go_loop [5] (fun vi => ∃ k : Nat, k ≤ s.length ∧ vi = .int .i64 ((k : Int) - 1)) (fun vi => ((RowKit.intOf vi) + 1).toNat)
  case atStart => exact ⟨s.length, Nat.le_refl _, by first | rfl | go_num | (congr 1; omega)⟩
  case round =>
    obtain ⟨k, hk, rfl⟩ := hrel
    rcases Nat.eq_zero_or_pos k with h0 | h0
    · subst h0
      go_wp2
      go_ret
      exact ⟨-1, rfl, by omega, by omega, rfl⟩
    · obtain ⟨j, rfl⟩ : ∃ j, k = j + 1 := ⟨k - 1, by omega⟩
      go_wp2
      · go_ret
        exact ⟨_, rfl, by omega, by omega, rfl⟩
      · refine ⟨⟨j, by omega, by first | rfl | (congr 1 <;> omega)⟩, ?_⟩
        simp [RowKit.intOf]
set_option maxHeartbeats 1000000 in
theorem lastSlash_any (s : List UInt8) (w : World) (hs : s.length ≤ 2147483648) :
    Calls Tryz.prog 47 #[S s, .string ⟨#[47]⟩] w fun e w' => ∃ i : Int, e = .returned (I i) ∧ -1 ≤ i ∧ i < s.length ∧ w' = w := by
  have C := Lib.hid (fun W => lastByte_any s 47 W hs)
  go_enter Tryz.func47, Tryz.ntmps47
  go_wp2_with (go_at_call 120; refine (C.out _).mono ?_; rintro e w2 ⟨i, rfl, h1, h2, rfl⟩)
  go_ret
  exact ⟨_, rfl, h1, h2, rfl⟩

/-- is a working file what the index says? -/
def sameB (L : List DF) (li : List Ent) (s : List UInt8) (now : Int) : Bool := decide (getE L s = 0) && ((IdxLaw.find li (s, 0)).isSome &&
  (freshB (IdxLaw.find li (s, 0)) ((getB L s).length : Int) (getN L s : Int) now || decide (((IdxLaw.find li (s, 0)).getD IdxLaw.zE).id = widL (getB L s))))
theorem ba_ne' {a b : List UInt8} (h : a ≠ b) : ((⟨a.toArray⟩ : ByteArray) == ⟨b.toArray⟩) = false := by
  rw [Bool.eq_false_iff]
  intro hh
  have h2 := (Go.MapKept.bytes_beq _ _).1 hh
  injection h2 with h2
  exact h (by simpa using h2)
def wsmaPhi (E : Int) : Nat → Value → World → Prop
  | 0, v, _ => v = I E
  | 1, v, _ => v = .bool false
  | 2, v, _ => v = .bool false
  | 3, v, _ => v = undef
  | 4, v, _ => v = .bool false
  | 5, v, _ => v = .bool false
  | 6, v, _ => v = undef
  | 7, v, _ => v = undef
  | 8, v, _ => v = undef
  | 9, v, _ => v = undef
  | 10, v, _ => v = undef
  | 11, v, _ => v = undef
  | 12, v, _ => v = undef
  | 13, v, _ => v = undef
  | 14, v, _ => v = undef
  | 15, v, _ => v = undef
  | 16, v, _ => v = undef
  | 17, v, _ => v = undef
  | 18, v, _ => v = undef
  | 19, v, _ => v = undef
  | 20, v, _ => v = .bool false
  | _, _, _ => True
theorem wsmaPhi_mono {E : Int} : ∀ (j : Nat) (v : Value) (w w' : World), wsmaPhi E j v w → Below w.heap.size w w' → wsmaPhi E j v w' := by
  intro j v w w' h _
  match j, h with
  | 0, h => exact h
  | 1, h => exact h
  | 2, h => exact h
  | 3, h => exact h
  | 4, h => exact h
  | 5, h => exact h
  | 6, h => exact h
  | 7, h => exact h
  | 8, h => exact h
  | 9, h => exact h
  | 10, h => exact h
  | 11, h => exact h
  | 12, h => exact h
  | 13, h => exact h
  | 14, h => exact h
  | 15, h => exact h
  | 16, h => exact h
  | 17, h => exact h
  | 18, h => exact h
  | 19, h => exact h
  | 20, h => exact h
  | (n + 21), _ => trivial
def wsmbPhi  : Nat → Value → World → Prop
  | 0, v, _ => v = I 0
  | 1, v, _ => v = .bool true
  | 2, v, _ => v = .bool true
  | 3, v, _ => v = .bool false
  | 4, v, _ => v = .bool false
  | 5, v, _ => v = .bool false
  | 6, v, _ => v = undef
  | 7, v, _ => v = undef
  | 8, v, _ => v = undef
  | 9, v, _ => v = undef
  | 10, v, _ => v = undef
  | 11, v, _ => v = undef
  | 12, v, _ => v = undef
  | 13, v, _ => v = undef
  | 14, v, _ => v = undef
  | 15, v, _ => v = undef
  | 16, v, _ => v = undef
  | 17, v, _ => v = undef
  | 18, v, _ => v = undef
  | 19, v, _ => v = undef
  | 20, v, _ => v = .bool false
  | _, _, _ => True
theorem wsmbPhi_mono  : ∀ (j : Nat) (v : Value) (w w' : World), wsmbPhi  j v w → Below w.heap.size w w' → wsmbPhi  j v w' := by
  intro j v w w' h _
  match j, h with
  | 0, h => exact h
  | 1, h => exact h
  | 2, h => exact h
  | 3, h => exact h
  | 4, h => exact h
  | 5, h => exact h
  | 6, h => exact h
  | 7, h => exact h
  | 8, h => exact h
  | 9, h => exact h
  | 10, h => exact h
  | 11, h => exact h
  | 12, h => exact h
  | 13, h => exact h
  | 14, h => exact h
  | 15, h => exact h
  | 16, h => exact h
  | 17, h => exact h
  | 18, h => exact h
  | 19, h => exact h
  | 20, h => exact h
  | (n + 21), _ => trivial
def wsmcPhi (q : Nat) (A8 : Option Addr) (c8 : Nat) (B : List UInt8) (N : Nat) (s : List UInt8) (now : Int) : Nat → Value → World → Prop
  | 0, v, _ => v = I 0
  | 1, v, _ => v = .bool true
  | 2, v, _ => v = .bool true
  | 3, v, _ => v = .bool true
  | 4, v, _ => v = .bool true
  | 5, v, _ => v = .bool true
  | 6, v, _ => v = .pointer (some ⟨q, 0, none⟩)
  | 7, v, _ => v = S s
  | 8, v, _ => v = .slice A8 B.length c8
  | 9, v, _ => v = I ((B.length : Int))
  | 10, v, _ => v = I ((N : Int))
  | 11, v, _ => v = I now
  | 12, v, _ => v = .bool true
  | 13, v, _ => v = .bool true
  | 14, v, _ => v = undef
  | 15, v, _ => v = undef
  | 16, v, _ => v = undef
  | 17, v, _ => v = undef
  | 18, v, _ => v = undef
  | 19, v, _ => v = .bool true
  | 20, v, _ => v = .bool true
  | _, _, _ => True
theorem wsmcPhi_mono {q : Nat} {A8 : Option Addr} {c8 : Nat} {B : List UInt8} {N : Nat} {s : List UInt8} {now : Int} : ∀ (j : Nat) (v : Value) (w w' : World), wsmcPhi q A8 c8 B N s now j v w → Below w.heap.size w w' → wsmcPhi q A8 c8 B N s now j v w' := by
  intro j v w w' h _
  match j, h with
  | 0, h => exact h
  | 1, h => exact h
  | 2, h => exact h
  | 3, h => exact h
  | 4, h => exact h
  | 5, h => exact h
  | 6, h => exact h
  | 7, h => exact h
  | 8, h => exact h
  | 9, h => exact h
  | 10, h => exact h
  | 11, h => exact h
  | 12, h => exact h
  | 13, h => exact h
  | 14, h => exact h
  | 15, h => exact h
  | 16, h => exact h
  | 17, h => exact h
  | 18, h => exact h
  | 19, h => exact h
  | 20, h => exact h
  | (n + 21), _ => trivial
def wsmdPhi (q g3 : Nat) (A8 : Option Addr) (c8 : Nat) (B : List UInt8) (N : Nat) (s eid : List UInt8) (now : Int) : Nat → Value → World → Prop
  | 0, v, _ => v = I 0
  | 1, v, _ => v = .bool true
  | 2, v, _ => v = .bool true
  | 3, v, _ => v = .bool true
  | 4, v, _ => v = .bool true
  | 5, v, _ => v = .bool true
  | 6, v, _ => v = .pointer (some ⟨q, 0, none⟩)
  | 7, v, _ => v = S s
  | 8, v, _ => v = .slice A8 B.length c8
  | 9, v, _ => v = I ((B.length : Int))
  | 10, v, _ => v = I ((N : Int))
  | 11, v, _ => v = I now
  | 12, v, _ => v = .bool false
  | 13, v, _ => v = .bool false
  | 14, v, _ => v = .pointer (some ⟨g3, 2, none⟩)
  | 15, v, _ => v = S eid
  | 16, v, _ => v = .slice A8 B.length c8
  | 17, v, _ => v = S eid
  | 18, v, _ => v = .bool true
  | 19, v, _ => v = .bool true
  | 20, v, _ => v = .bool true
  | _, _, _ => True
theorem wsmdPhi_mono {q g3 : Nat} {A8 : Option Addr} {c8 : Nat} {B : List UInt8} {N : Nat} {s eid : List UInt8} {now : Int} : ∀ (j : Nat) (v : Value) (w w' : World), wsmdPhi q g3 A8 c8 B N s eid now j v w → Below w.heap.size w w' → wsmdPhi q g3 A8 c8 B N s eid now j v w' := by
  intro j v w w' h _
  match j, h with
  | 0, h => exact h
  | 1, h => exact h
  | 2, h => exact h
  | 3, h => exact h
  | 4, h => exact h
  | 5, h => exact h
  | 6, h => exact h
  | 7, h => exact h
  | 8, h => exact h
  | 9, h => exact h
  | 10, h => exact h
  | 11, h => exact h
  | 12, h => exact h
  | 13, h => exact h
  | 14, h => exact h
  | 15, h => exact h
  | 16, h => exact h
  | 17, h => exact h
  | 18, h => exact h
  | 19, h => exact h
  | 20, h => exact h
  | (n + 21), _ => trivial
def wsmePhi (q g3 : Nat) (A8 : Option Addr) (c8 : Nat) (B : List UInt8) (N : Nat) (s eid own : List UInt8) (now : Int) : Nat → Value → World → Prop
  | 0, v, _ => v = I 0
  | 1, v, _ => v = .bool true
  | 2, v, _ => v = .bool true
  | 3, v, _ => v = .bool true
  | 4, v, _ => v = .bool true
  | 5, v, _ => v = .bool true
  | 6, v, _ => v = .pointer (some ⟨q, 0, none⟩)
  | 7, v, _ => v = S s
  | 8, v, _ => v = .slice A8 B.length c8
  | 9, v, _ => v = I ((B.length : Int))
  | 10, v, _ => v = I ((N : Int))
  | 11, v, _ => v = I now
  | 12, v, _ => v = .bool false
  | 13, v, _ => v = .bool false
  | 14, v, _ => v = .pointer (some ⟨g3, 2, none⟩)
  | 15, v, _ => v = S eid
  | 16, v, _ => v = .slice A8 B.length c8
  | 17, v, _ => v = S own
  | 18, v, _ => v = .bool false
  | 19, v, _ => v = .bool false
  | 20, v, _ => v = .bool false
  | _, _, _ => True
theorem wsmePhi_mono {q g3 : Nat} {A8 : Option Addr} {c8 : Nat} {B : List UInt8} {N : Nat} {s eid own : List UInt8} {now : Int} : ∀ (j : Nat) (v : Value) (w w' : World), wsmePhi q g3 A8 c8 B N s eid own now j v w → Below w.heap.size w w' → wsmePhi q g3 A8 c8 B N s eid own now j v w' := by
  intro j v w w' h _
  match j, h with
  | 0, h => exact h
  | 1, h => exact h
  | 2, h => exact h
  | 3, h => exact h
  | 4, h => exact h
  | 5, h => exact h
  | 6, h => exact h
  | 7, h => exact h
  | 8, h => exact h
  | 9, h => exact h
  | 10, h => exact h
  | 11, h => exact h
  | 12, h => exact h
  | 13, h => exact h
  | 14, h => exact h
  | 15, h => exact h
  | 16, h => exact h
  | 17, h => exact h
  | 18, h => exact h
  | 19, h => exact h
  | 20, h => exact h
  | (n + 21), _ => trivial
set_option maxHeartbeats 8000000 in
set_option maxRecDepth 100000 in
theorem wsame_any (w : World) (p m n : Nat) (cap : Int) (L : List DF) (q mi ni : Nat) (li : List Ent) (s : List UInt8) (now : Int) (h : DiskAt w p m n cap L) (hI : IdxAt w q mi li ni) (hs : s.length ≤ 2147483648) (hM : MaxL w)
    (hsm : smallC L) :
    Calls Tryz.prog 12 #[.pointer (some ⟨p, 0, none⟩), .pointer (some ⟨q, 0, none⟩), S s, I now] w fun e w' => e = .returned (.bool (sameB L li s now)) ∧ Below w.heap.size w w' := by
  have C1 := Lib.hid (wget_any w p m n cap L s h hs hM)
  have HI := Lib.hid hI
  have hgl : (getB L s).length ≤ 1000000000 := getB_len hsm s
  obtain ⟨B, hB⟩ : ∃ B, B = getB L s := ⟨_, rfl⟩
  obtain ⟨E, hE⟩ : ∃ E, E = getE L s := ⟨_, rfl⟩
  obtain ⟨N, hN⟩ : ∃ N, N = getN L s := ⟨_, rfl⟩
  obtain ⟨fo, hfo⟩ : ∃ fo, fo = IdxLaw.find li (s, 0) := ⟨_, rfl⟩
  obtain ⟨z, hz⟩ : ∃ z, z = fo.getD IdxLaw.zE := ⟨_, rfl⟩
  obtain ⟨isS, his⟩ : ∃ isS, isS = fo.isSome := ⟨_, rfl⟩
  obtain ⟨fr, hfr⟩ : ∃ fr, fr = freshB fo (B.length : Int) (N : Int) now := ⟨_, rfl⟩
  obtain ⟨own, hown⟩ : ∃ own, own = widL B := ⟨_, rfl⟩
  obtain ⟨eid, heid⟩ : ∃ eid, eid = z.id := ⟨_, rfl⟩
  obtain ⟨R, hR⟩ : ∃ R, R = sameB L li s now := ⟨_, rfl⟩
  have HR : R = (decide (E = 0) && (isS && (fr || decide (eid = own)))) := by rw [hR, hE, his, hfr, heid, hz, hown, hfo, hB, hN]; rfl
  have CFi : Hid (∀ V, Below w.heap.size w V → Calls Tryz.prog 48 #[.pointer (some ⟨q, 0, none⟩), S s, I 0] V fun e w' => e = .returned (.tuple #[entV z, .bool isS]) ∧ Below V.heap.size V w') := Lib.hid (fun V hV => by
    have := find_any V q mi ni li s 0 (HI.out.step hV) ⟨by simp only [maxLen]; omega, show (Lit.int .i64 0).wf = true by decide⟩
    rw [← hfo, ← hz, ← his] at this
    exact this)
  have CFr : Hid (∀ V, Below w.heap.size w V → Calls Tryz.prog 49 #[.pointer (some ⟨q, 0, none⟩), S s, I (B.length : Int), I (N : Int), I now] V fun e w' => e = .returned (.bool fr) ∧ Below V.heap.size V w') := Lib.hid (fun V hV => by
    have := fresh_any V q mi ni li s (B.length : Int) (N : Int) now (HI.out.step hV) (by simp only [maxLen]; omega)
    rw [← hfo, ← hfr] at this
    exact this)
  rw [← hB, ← hE, ← hN] at C1
  rw [← hR]
  rw [← hB] at hgl
  have Hown := Lib.hid hown
  have Hgl := Lib.hid hgl
  clear hR hfr his hz hfo hN hE hB hown hgl h hI hM hsm
  go_enter Tryz.func12, Tryz.ntmps12
  go_wp2_with fail
  refine C1.out.mono ?_
  rintro e w1 ⟨A8, k8, c8, rfl, hO8⟩
  have HO8 := Lib.hid hO8
  have B1 := Lib.hid hO8.2
  have hk8 : B.length = k8 := u8s_len hO8.sl
  clear hO8 C1
  go_wp2_with fail
  refine (CFi.out _ B1.out).mono ?_
  rintro e wf ⟨rfl, bf⟩
  have Bf := Lib.hid (bstep B1.out bf)
  have HO9 := Lib.hid (HO8.out.keep bf)
  clear bf CFi HO8
  obtain ⟨g3, hg3⟩ : ∃ g3, g3 = wf.heap.size := ⟨_, rfl⟩
  obtain ⟨wg, hwg⟩ : ∃ wg, wg = wf.alloc (.cells #[S z.path, I z.stage, S z.id, I z.size, I z.stamp] 40) := ⟨_, rfl⟩
  have HE3 : Hid (Blk wg g3 40 #[S z.path, I z.stage, S z.id, I z.size, I z.stamp]) := Lib.hid (by rw [hwg, hg3]; exact Blk.new wf _ _)
  have Bg : Hid (Below w.heap.size w wg) := Lib.hid (by rw [hwg]; exact balloc Bf.out _)
  have HOg := Lib.hid (show Ow w wg 5 1 A8 k8 c8 (u8s B) by rw [hwg]; exact HO9.out.alloc _)
  obtain ⟨zp, zs, zi, zz, zt⟩ := z
  simp only at heid HE3 hwg
  subst heid
  have CF := Lib.hid (fun V (hV : Below wg.heap.size wg V) => CFr.out V (bstep Bg.out hV))
  have CI : Hid (∀ V, Below wg.heap.size wg V → Calls Tryz.prog 10 #[.slice A8 k8 c8] V fun e w' => e = .returned (S own) ∧ Below V.heap.size V w') := Lib.hid (fun V hV => by
    have := wid_any A8 k8 c8 B V (HOg.out.sl.below hV) (by have := Hgl.out; omega)
    rw [← Hown.out] at this
    exact this)
  subst hk8
  go_wp2_with fail
  simp only [← hwg, ← hg3]
  clear hwg hg3 CFr HO9
  have hways : (E ≠ 0 ∧ (E == 0) = false ∧ R = false) ∨ (E = 0 ∧ isS = false ∧ R = false) ∨ (E = 0 ∧ isS = true ∧ fr = true ∧ R = true) ∨ (E = 0 ∧ isS = true ∧ fr = false ∧ eid = own ∧ R = true) ∨ (E = 0 ∧ isS = true ∧ fr = false ∧ (eid == own) = false ∧ ((⟨eid.toArray⟩ : ByteArray) == ⟨own.toArray⟩) = false ∧ R = false) := by
    rw [HR]
    by_cases h1 : E = 0
    · cases isS
      · exact .inr (.inl ⟨h1, rfl, by simp⟩)
      · cases fr
        · by_cases h2 : eid = own
          · exact .inr (.inr (.inr (.inl ⟨h1, rfl, rfl, h2, by simp [h1, h2]⟩)))
          · exact .inr (.inr (.inr (.inr ⟨h1, rfl, rfl, beq_eq_false_iff_ne.2 h2, ba_ne' h2, by simp [h2]⟩)))
        · exact .inr (.inr (.inl ⟨h1, rfl, rfl, by simp [h1]⟩))
    · exact .inl ⟨h1, beq_eq_false_iff_ne.2 h1, by simp [h1]⟩
  clear HR
  rcases hways with ⟨h1, hE0, rfl⟩ | ⟨rfl, rfl, rfl⟩ | ⟨rfl, rfl, rfl, rfl⟩ | ⟨rfl, rfl, rfl, rfl, rfl⟩ | ⟨rfl, rfl, rfl, hn1, hn2, rfl⟩
  · refine wp_region_guards (by kernel_rfl) 21 (by kernel_rfl) ?_ (wsmaPhi E) wsmaPhi_mono (fun i9 o hi ho a w hb hs hm => ?_) (fun o ho a w5 hb hs hm => ?_)
    · exact dst_ltC2 (n := 48) (by kernel_rfl)
    · exact match i9, hi, ho with
        | 0, _, ho => by
            cases ho
            rw [if_pos (wanted_none _ rfl)]
            refine wp_value (st_move rfl ((hs.keeps (by kernel_rfl)).trans rfl)) ⟨_, rfl, rfl, Below.refl _ _⟩
        | 1, _, ho => by
            cases ho
            rw [if_pos (wanted_none _ rfl)]
            have h1 := eval_getD (hm.get 0 27 (by kernel_rfl)); unfold Oper.wp; simp only [execOp]; go_simp; exact ⟨_, rfl, (show Value.bool _ = Value.bool _ by rfl), Below.refl _ _⟩
        | 2, _, ho => by
            cases ho
            rw [if_pos (wanted_none _ rfl)]
            refine wp_value (st_move rfl (hm.get 1 28 (by kernel_rfl))) ⟨_, rfl, rfl, Below.refl _ _⟩
        | 3, _, ho => by
            cases ho
            generalize hW : Region.wanted _ _ = W
            obtain rfl : W = (false == true) := hW.symm.trans (wanted_of rfl rfl rfl (show a.eval (.tmp 29) = .bool false from (hm.get 2 29 (by kernel_rfl))))
            clear hW
            rw [if_neg (show ¬ (false == true) = true by decide)]
            exact rfl
        | 4, _, ho => by
            cases ho
            rw [if_pos (wanted_none _ rfl)]
            have h1 := eval_getD (hm.get 2 29 (by kernel_rfl)); unfold Oper.wp; simp only [execOp]; go_simp; exact ⟨_, rfl, rfl, Below.refl _ _⟩
        | 5, _, ho => by
            cases ho
            rw [if_pos (wanted_none _ rfl)]
            refine wp_value (st_move rfl (hm.get 4 31 (by kernel_rfl))) ⟨_, rfl, rfl, Below.refl _ _⟩
        | 6, _, ho => by
            cases ho
            generalize hW : Region.wanted _ _ = W
            obtain rfl : W = (false == true) := hW.symm.trans (wanted_of rfl rfl rfl (show a.eval (.tmp 32) = .bool false from (hm.get 5 32 (by kernel_rfl))))
            clear hW
            rw [if_neg (show ¬ (false == true) = true by decide)]
            exact rfl
        | 7, _, ho => by
            cases ho
            generalize hW : Region.wanted _ _ = W
            obtain rfl : W = (false == true) := hW.symm.trans (wanted_of rfl rfl rfl (show a.eval (.tmp 32) = .bool false from (hm.get 5 32 (by kernel_rfl))))
            clear hW
            rw [if_neg (show ¬ (false == true) = true by decide)]
            exact rfl
        | 8, _, ho => by
            cases ho
            generalize hW : Region.wanted _ _ = W
            obtain rfl : W = (false == true) := hW.symm.trans (wanted_of rfl rfl rfl (show a.eval (.tmp 32) = .bool false from (hm.get 5 32 (by kernel_rfl))))
            clear hW
            rw [if_neg (show ¬ (false == true) = true by decide)]
            exact rfl
        | 9, _, ho => by
            cases ho
            generalize hW : Region.wanted _ _ = W
            obtain rfl : W = (false == true) := hW.symm.trans (wanted_of rfl rfl rfl (show a.eval (.tmp 32) = .bool false from (hm.get 5 32 (by kernel_rfl))))
            clear hW
            rw [if_neg (show ¬ (false == true) = true by decide)]
            exact rfl
        | 10, _, ho => by
            cases ho
            generalize hW : Region.wanted _ _ = W
            obtain rfl : W = (false == true) := hW.symm.trans (wanted_of rfl rfl rfl (show a.eval (.tmp 32) = .bool false from (hm.get 5 32 (by kernel_rfl))))
            clear hW
            rw [if_neg (show ¬ (false == true) = true by decide)]
            exact rfl
        | 11, _, ho => by
            cases ho
            generalize hW : Region.wanted _ _ = W
            obtain rfl : W = (false == true) := hW.symm.trans (wanted_of rfl rfl rfl (show a.eval (.tmp 32) = .bool false from (hm.get 5 32 (by kernel_rfl))))
            clear hW
            rw [if_neg (show ¬ (false == true) = true by decide)]
            exact rfl
        | 12, _, ho => by
            cases ho
            generalize hW : Region.wanted _ _ = W
            obtain rfl : W = (false == true) := hW.symm.trans (wanted_of rfl rfl rfl (show a.eval (.tmp 32) = .bool false from (hm.get 5 32 (by kernel_rfl))))
            clear hW
            rw [if_neg (show ¬ (false == true) = true by decide)]
            exact rfl
        | 13, _, ho => by
            cases ho
            generalize hW : Region.wanted _ _ = W
            obtain rfl : W = (false == true) := hW.symm.trans (wanted_of rfl rfl rfl (show a.eval (.tmp 32) = .bool false from (hm.get 5 32 (by kernel_rfl))))
            clear hW
            rw [if_neg (show ¬ (false == true) = true by decide)]
            exact rfl
        | 14, _, ho => by
            cases ho
            rw [if_neg (show ¬ Region.wanted _ _ = true by rw [wanted_undef rfl rfl rfl (show a.eval (.tmp 40) = undef from (hm.get 13 40 (by kernel_rfl)))]; decide)]
            exact rfl
        | 15, _, ho => by
            cases ho
            rw [if_neg (show ¬ Region.wanted _ _ = true by rw [wanted_undef rfl rfl rfl (show a.eval (.tmp 40) = undef from (hm.get 13 40 (by kernel_rfl)))]; decide)]
            exact rfl
        | 16, _, ho => by
            cases ho
            rw [if_neg (show ¬ Region.wanted _ _ = true by rw [wanted_undef rfl rfl rfl (show a.eval (.tmp 40) = undef from (hm.get 13 40 (by kernel_rfl)))]; decide)]
            exact rfl
        | 17, _, ho => by
            cases ho
            rw [if_neg (show ¬ Region.wanted _ _ = true by rw [wanted_undef rfl rfl rfl (show a.eval (.tmp 40) = undef from (hm.get 13 40 (by kernel_rfl)))]; decide)]
            exact rfl
        | 18, _, ho => by
            cases ho
            rw [if_neg (show ¬ Region.wanted _ _ = true by rw [wanted_undef rfl rfl rfl (show a.eval (.tmp 40) = undef from (hm.get 13 40 (by kernel_rfl)))]; decide)]
            exact rfl
        | 19, _, ho => by
            cases ho
            generalize hW : Region.wanted _ _ = W
            obtain rfl : W = (false == true) := hW.symm.trans (wanted_of rfl rfl rfl (show a.eval (.tmp 32) = .bool false from (hm.get 5 32 (by kernel_rfl))))
            clear hW
            rw [if_neg (show ¬ (false == true) = true by decide)]
            exact rfl
        | 20, _, ho => by
            cases ho
            rw [if_pos (wanted_none _ rfl)]
            have h1 := eval_getD (hm.get 5 32 (by kernel_rfl)); unfold Oper.wp; simp only [execOp]; go_simp; exact ⟨_, rfl, rfl, Below.refl _ _⟩
        | (n + 21), hi, _ => absurd hi (by omega)

    have e1 : a.eval (.tmp 47) = .bool false := by cases ho; exact hm.get 20 47 (by kernel_rfl)
    have hfr := hs.frame [27, 28, 29, 30, 31, 32, 33, 34, 35, 36, 37, 38, 39, 40, 41, 42, 43, 44, 45, 46, 47, 8] (by kernel_rfl)
    have B9 := Lib.hid hb
    cases ho
    rw [hfr]
    simp only [List.foldl_cons, List.foldl_nil, e1]
    clear hfr hs hm e1 hb
    generalize a.eval (.tmp 27) = u27
    generalize a.eval (.tmp 28) = u28
    generalize a.eval (.tmp 29) = u29
    generalize a.eval (.tmp 30) = u30
    generalize a.eval (.tmp 31) = u31
    generalize a.eval (.tmp 32) = u32
    generalize a.eval (.tmp 33) = u33
    generalize a.eval (.tmp 34) = u34
    generalize a.eval (.tmp 35) = u35
    generalize a.eval (.tmp 36) = u36
    generalize a.eval (.tmp 37) = u37
    generalize a.eval (.tmp 38) = u38
    generalize a.eval (.tmp 39) = u39
    generalize a.eval (.tmp 40) = u40
    generalize a.eval (.tmp 41) = u41
    generalize a.eval (.tmp 42) = u42
    generalize a.eval (.tmp 43) = u43
    generalize a.eval (.tmp 44) = u44
    generalize a.eval (.tmp 45) = u45
    generalize a.eval (.tmp 46) = u46
    generalize a.eval (.tmp 8) = u8
    unfold Oper.wp
    simp only [execOp]
    go_simp
    clear a
    go_wp2
    go_ret
    exact ⟨rfl, bstep Bg.out B9.out⟩
  · refine wp_region_guards (by kernel_rfl) 21 (by kernel_rfl) ?_ (wsmbPhi ) wsmbPhi_mono (fun i9 o hi ho a w hb hs hm => ?_) (fun o ho a w5 hb hs hm => ?_)
    · exact dst_ltC2 (n := 48) (by kernel_rfl)
    · exact match i9, hi, ho with
        | 0, _, ho => by
            cases ho
            rw [if_pos (wanted_none _ rfl)]
            refine wp_value (st_move rfl ((hs.keeps (by kernel_rfl)).trans rfl)) ⟨_, rfl, rfl, Below.refl _ _⟩
        | 1, _, ho => by
            cases ho
            rw [if_pos (wanted_none _ rfl)]
            have h1 := eval_getD (hm.get 0 27 (by kernel_rfl)); unfold Oper.wp; simp only [execOp]; go_simp; exact ⟨_, rfl, (by first | rfl | simp), Below.refl _ _⟩
        | 2, _, ho => by
            cases ho
            rw [if_pos (wanted_none _ rfl)]
            refine wp_value (st_move rfl (hm.get 1 28 (by kernel_rfl))) ⟨_, rfl, rfl, Below.refl _ _⟩
        | 3, _, ho => by
            cases ho
            generalize hW : Region.wanted _ _ = W
            obtain rfl : W = (true == true) := hW.symm.trans (wanted_of rfl rfl rfl (show a.eval (.tmp 29) = .bool true from (hm.get 2 29 (by kernel_rfl))))
            clear hW
            rw [if_pos (show (true == true) = true by decide)]
            refine wp_value (st_move rfl ((hs.keeps (by kernel_rfl)).trans rfl)) ⟨_, rfl, rfl, Below.refl _ _⟩
        | 4, _, ho => by
            cases ho
            rw [if_pos (wanted_none _ rfl)]
            have h1 := eval_getD (hm.get 2 29 (by kernel_rfl)); have h3 := eval_getD (hm.get 3 30 (by kernel_rfl)); unfold Oper.wp; simp only [execOp]; go_simp; exact ⟨_, rfl, rfl, Below.refl _ _⟩
        | 5, _, ho => by
            cases ho
            rw [if_pos (wanted_none _ rfl)]
            refine wp_value (st_move rfl (hm.get 4 31 (by kernel_rfl))) ⟨_, rfl, rfl, Below.refl _ _⟩
        | 6, _, ho => by
            cases ho
            generalize hW : Region.wanted _ _ = W
            obtain rfl : W = (false == true) := hW.symm.trans (wanted_of rfl rfl rfl (show a.eval (.tmp 32) = .bool false from (hm.get 5 32 (by kernel_rfl))))
            clear hW
            rw [if_neg (show ¬ (false == true) = true by decide)]
            exact rfl
        | 7, _, ho => by
            cases ho
            generalize hW : Region.wanted _ _ = W
            obtain rfl : W = (false == true) := hW.symm.trans (wanted_of rfl rfl rfl (show a.eval (.tmp 32) = .bool false from (hm.get 5 32 (by kernel_rfl))))
            clear hW
            rw [if_neg (show ¬ (false == true) = true by decide)]
            exact rfl
        | 8, _, ho => by
            cases ho
            generalize hW : Region.wanted _ _ = W
            obtain rfl : W = (false == true) := hW.symm.trans (wanted_of rfl rfl rfl (show a.eval (.tmp 32) = .bool false from (hm.get 5 32 (by kernel_rfl))))
            clear hW
            rw [if_neg (show ¬ (false == true) = true by decide)]
            exact rfl
        | 9, _, ho => by
            cases ho
            generalize hW : Region.wanted _ _ = W
            obtain rfl : W = (false == true) := hW.symm.trans (wanted_of rfl rfl rfl (show a.eval (.tmp 32) = .bool false from (hm.get 5 32 (by kernel_rfl))))
            clear hW
            rw [if_neg (show ¬ (false == true) = true by decide)]
            exact rfl
        | 10, _, ho => by
            cases ho
            generalize hW : Region.wanted _ _ = W
            obtain rfl : W = (false == true) := hW.symm.trans (wanted_of rfl rfl rfl (show a.eval (.tmp 32) = .bool false from (hm.get 5 32 (by kernel_rfl))))
            clear hW
            rw [if_neg (show ¬ (false == true) = true by decide)]
            exact rfl
        | 11, _, ho => by
            cases ho
            generalize hW : Region.wanted _ _ = W
            obtain rfl : W = (false == true) := hW.symm.trans (wanted_of rfl rfl rfl (show a.eval (.tmp 32) = .bool false from (hm.get 5 32 (by kernel_rfl))))
            clear hW
            rw [if_neg (show ¬ (false == true) = true by decide)]
            exact rfl
        | 12, _, ho => by
            cases ho
            generalize hW : Region.wanted _ _ = W
            obtain rfl : W = (false == true) := hW.symm.trans (wanted_of rfl rfl rfl (show a.eval (.tmp 32) = .bool false from (hm.get 5 32 (by kernel_rfl))))
            clear hW
            rw [if_neg (show ¬ (false == true) = true by decide)]
            exact rfl
        | 13, _, ho => by
            cases ho
            generalize hW : Region.wanted _ _ = W
            obtain rfl : W = (false == true) := hW.symm.trans (wanted_of rfl rfl rfl (show a.eval (.tmp 32) = .bool false from (hm.get 5 32 (by kernel_rfl))))
            clear hW
            rw [if_neg (show ¬ (false == true) = true by decide)]
            exact rfl
        | 14, _, ho => by
            cases ho
            rw [if_neg (show ¬ Region.wanted _ _ = true by rw [wanted_undef rfl rfl rfl (show a.eval (.tmp 40) = undef from (hm.get 13 40 (by kernel_rfl)))]; decide)]
            exact rfl
        | 15, _, ho => by
            cases ho
            rw [if_neg (show ¬ Region.wanted _ _ = true by rw [wanted_undef rfl rfl rfl (show a.eval (.tmp 40) = undef from (hm.get 13 40 (by kernel_rfl)))]; decide)]
            exact rfl
        | 16, _, ho => by
            cases ho
            rw [if_neg (show ¬ Region.wanted _ _ = true by rw [wanted_undef rfl rfl rfl (show a.eval (.tmp 40) = undef from (hm.get 13 40 (by kernel_rfl)))]; decide)]
            exact rfl
        | 17, _, ho => by
            cases ho
            rw [if_neg (show ¬ Region.wanted _ _ = true by rw [wanted_undef rfl rfl rfl (show a.eval (.tmp 40) = undef from (hm.get 13 40 (by kernel_rfl)))]; decide)]
            exact rfl
        | 18, _, ho => by
            cases ho
            rw [if_neg (show ¬ Region.wanted _ _ = true by rw [wanted_undef rfl rfl rfl (show a.eval (.tmp 40) = undef from (hm.get 13 40 (by kernel_rfl)))]; decide)]
            exact rfl
        | 19, _, ho => by
            cases ho
            generalize hW : Region.wanted _ _ = W
            obtain rfl : W = (false == true) := hW.symm.trans (wanted_of rfl rfl rfl (show a.eval (.tmp 32) = .bool false from (hm.get 5 32 (by kernel_rfl))))
            clear hW
            rw [if_neg (show ¬ (false == true) = true by decide)]
            exact rfl
        | 20, _, ho => by
            cases ho
            rw [if_pos (wanted_none _ rfl)]
            have h1 := eval_getD (hm.get 5 32 (by kernel_rfl)); unfold Oper.wp; simp only [execOp]; go_simp; exact ⟨_, rfl, rfl, Below.refl _ _⟩
        | (n + 21), hi, _ => absurd hi (by omega)

    have e1 : a.eval (.tmp 47) = .bool false := by cases ho; exact hm.get 20 47 (by kernel_rfl)
    have hfr := hs.frame [27, 28, 29, 30, 31, 32, 33, 34, 35, 36, 37, 38, 39, 40, 41, 42, 43, 44, 45, 46, 47, 8] (by kernel_rfl)
    have B9 := Lib.hid hb
    cases ho
    rw [hfr]
    simp only [List.foldl_cons, List.foldl_nil, e1]
    clear hfr hs hm e1 hb
    generalize a.eval (.tmp 27) = u27
    generalize a.eval (.tmp 28) = u28
    generalize a.eval (.tmp 29) = u29
    generalize a.eval (.tmp 30) = u30
    generalize a.eval (.tmp 31) = u31
    generalize a.eval (.tmp 32) = u32
    generalize a.eval (.tmp 33) = u33
    generalize a.eval (.tmp 34) = u34
    generalize a.eval (.tmp 35) = u35
    generalize a.eval (.tmp 36) = u36
    generalize a.eval (.tmp 37) = u37
    generalize a.eval (.tmp 38) = u38
    generalize a.eval (.tmp 39) = u39
    generalize a.eval (.tmp 40) = u40
    generalize a.eval (.tmp 41) = u41
    generalize a.eval (.tmp 42) = u42
    generalize a.eval (.tmp 43) = u43
    generalize a.eval (.tmp 44) = u44
    generalize a.eval (.tmp 45) = u45
    generalize a.eval (.tmp 46) = u46
    generalize a.eval (.tmp 8) = u8
    unfold Oper.wp
    simp only [execOp]
    go_simp
    clear a
    go_wp2
    go_ret
    exact ⟨rfl, bstep Bg.out B9.out⟩
  · refine wp_region_guards (by kernel_rfl) 21 (by kernel_rfl) ?_ (wsmcPhi q A8 c8 B N s now) wsmcPhi_mono (fun i9 o hi ho a w hb hs hm => ?_) (fun o ho a w5 hb hs hm => ?_)
    · exact dst_ltC2 (n := 48) (by kernel_rfl)
    · exact match i9, hi, ho with
        | 0, _, ho => by
            cases ho
            rw [if_pos (wanted_none _ rfl)]
            refine wp_value (st_move rfl ((hs.keeps (by kernel_rfl)).trans rfl)) ⟨_, rfl, rfl, Below.refl _ _⟩
        | 1, _, ho => by
            cases ho
            rw [if_pos (wanted_none _ rfl)]
            have h1 := eval_getD (hm.get 0 27 (by kernel_rfl)); unfold Oper.wp; simp only [execOp]; go_simp; exact ⟨_, rfl, (by first | rfl | simp), Below.refl _ _⟩
        | 2, _, ho => by
            cases ho
            rw [if_pos (wanted_none _ rfl)]
            refine wp_value (st_move rfl (hm.get 1 28 (by kernel_rfl))) ⟨_, rfl, rfl, Below.refl _ _⟩
        | 3, _, ho => by
            cases ho
            generalize hW : Region.wanted _ _ = W
            obtain rfl : W = (true == true) := hW.symm.trans (wanted_of rfl rfl rfl (show a.eval (.tmp 29) = .bool true from (hm.get 2 29 (by kernel_rfl))))
            clear hW
            rw [if_pos (show (true == true) = true by decide)]
            refine wp_value (st_move rfl ((hs.keeps (by kernel_rfl)).trans rfl)) ⟨_, rfl, rfl, Below.refl _ _⟩
        | 4, _, ho => by
            cases ho
            rw [if_pos (wanted_none _ rfl)]
            have h1 := eval_getD (hm.get 2 29 (by kernel_rfl)); have h3 := eval_getD (hm.get 3 30 (by kernel_rfl)); unfold Oper.wp; simp only [execOp]; go_simp; exact ⟨_, rfl, rfl, Below.refl _ _⟩
        | 5, _, ho => by
            cases ho
            rw [if_pos (wanted_none _ rfl)]
            refine wp_value (st_move rfl (hm.get 4 31 (by kernel_rfl))) ⟨_, rfl, rfl, Below.refl _ _⟩
        | 6, _, ho => by
            cases ho
            generalize hW : Region.wanted _ _ = W
            obtain rfl : W = (true == true) := hW.symm.trans (wanted_of rfl rfl rfl (show a.eval (.tmp 32) = .bool true from (hm.get 5 32 (by kernel_rfl))))
            clear hW
            rw [if_pos (show (true == true) = true by decide)]
            refine wp_value (st_move rfl ((hs.keeps (by kernel_rfl)).trans rfl)) ⟨_, rfl, rfl, Below.refl _ _⟩
        | 7, _, ho => by
            cases ho
            generalize hW : Region.wanted _ _ = W
            obtain rfl : W = (true == true) := hW.symm.trans (wanted_of rfl rfl rfl (show a.eval (.tmp 32) = .bool true from (hm.get 5 32 (by kernel_rfl))))
            clear hW
            rw [if_pos (show (true == true) = true by decide)]
            refine wp_value (st_move rfl ((hs.keeps (by kernel_rfl)).trans rfl)) ⟨_, rfl, rfl, Below.refl _ _⟩
        | 8, _, ho => by
            cases ho
            generalize hW : Region.wanted _ _ = W
            obtain rfl : W = (true == true) := hW.symm.trans (wanted_of rfl rfl rfl (show a.eval (.tmp 32) = .bool true from (hm.get 5 32 (by kernel_rfl))))
            clear hW
            rw [if_pos (show (true == true) = true by decide)]
            refine wp_value (st_move rfl ((hs.keeps (by kernel_rfl)).trans rfl)) ⟨_, rfl, rfl, Below.refl _ _⟩
        | 9, _, ho => by
            cases ho
            generalize hW : Region.wanted _ _ = W
            obtain rfl : W = (true == true) := hW.symm.trans (wanted_of rfl rfl rfl (show a.eval (.tmp 32) = .bool true from (hm.get 5 32 (by kernel_rfl))))
            clear hW
            rw [if_pos (show (true == true) = true by decide)]
            have h1 := eval_getD (hm.get 8 35 (by kernel_rfl)); unfold Oper.wp; simp only [execOp]; go_simp; exact ⟨_, rfl, (by first | rfl | simp), Below.refl _ _⟩
        | 10, _, ho => by
            cases ho
            generalize hW : Region.wanted _ _ = W
            obtain rfl : W = (true == true) := hW.symm.trans (wanted_of rfl rfl rfl (show a.eval (.tmp 32) = .bool true from (hm.get 5 32 (by kernel_rfl))))
            clear hW
            rw [if_pos (show (true == true) = true by decide)]
            refine wp_value (st_move rfl ((hs.keeps (by kernel_rfl)).trans rfl)) ⟨_, rfl, rfl, Below.refl _ _⟩
        | 11, _, ho => by
            cases ho
            generalize hW : Region.wanted _ _ = W
            obtain rfl : W = (true == true) := hW.symm.trans (wanted_of rfl rfl rfl (show a.eval (.tmp 32) = .bool true from (hm.get 5 32 (by kernel_rfl))))
            clear hW
            rw [if_pos (show (true == true) = true by decide)]
            refine wp_value (st_move rfl ((hs.keeps (by kernel_rfl)).trans rfl)) ⟨_, rfl, rfl, Below.refl _ _⟩
        | 12, _, ho => by
            cases ho
            generalize hW : Region.wanted _ _ = W
            obtain rfl : W = (true == true) := hW.symm.trans (wanted_of rfl rfl rfl (show a.eval (.tmp 32) = .bool true from (hm.get 5 32 (by kernel_rfl))))
            clear hW
            rw [if_pos (show (true == true) = true by decide)]
            have h1 := eval_getD (hm.get 6 33 (by kernel_rfl)); have h2 := eval_getD (hm.get 7 34 (by kernel_rfl)); have h3 := eval_getD (hm.get 9 36 (by kernel_rfl)); have h4 := eval_getD (hm.get 10 37 (by kernel_rfl)); have h5 := eval_getD (hm.get 11 38 (by kernel_rfl)); unfold Oper.wp; simp only [execOp]; go_simp; refine (CF.out w hb).mono ?_; rintro e w6 ⟨rfl, b6⟩; exact ⟨_, rfl, rfl, b6⟩
        | 13, _, ho => by
            cases ho
            generalize hW : Region.wanted _ _ = W
            obtain rfl : W = (true == true) := hW.symm.trans (wanted_of rfl rfl rfl (show a.eval (.tmp 32) = .bool true from (hm.get 5 32 (by kernel_rfl))))
            clear hW
            rw [if_pos (show (true == true) = true by decide)]
            refine wp_value (st_move rfl (hm.get 12 39 (by kernel_rfl))) ⟨_, rfl, rfl, Below.refl _ _⟩
        | 14, _, ho => by
            cases ho
            generalize hW : Region.wanted _ _ = W
            obtain rfl : W = (true == false) := hW.symm.trans (wanted_of rfl rfl rfl (show a.eval (.tmp 40) = .bool true from (hm.get 13 40 (by kernel_rfl))))
            clear hW
            rw [if_neg (show ¬ (true == false) = true by decide)]
            exact rfl
        | 15, _, ho => by
            cases ho
            generalize hW : Region.wanted _ _ = W
            obtain rfl : W = (true == false) := hW.symm.trans (wanted_of rfl rfl rfl (show a.eval (.tmp 40) = .bool true from (hm.get 13 40 (by kernel_rfl))))
            clear hW
            rw [if_neg (show ¬ (true == false) = true by decide)]
            exact rfl
        | 16, _, ho => by
            cases ho
            generalize hW : Region.wanted _ _ = W
            obtain rfl : W = (true == false) := hW.symm.trans (wanted_of rfl rfl rfl (show a.eval (.tmp 40) = .bool true from (hm.get 13 40 (by kernel_rfl))))
            clear hW
            rw [if_neg (show ¬ (true == false) = true by decide)]
            exact rfl
        | 17, _, ho => by
            cases ho
            generalize hW : Region.wanted _ _ = W
            obtain rfl : W = (true == false) := hW.symm.trans (wanted_of rfl rfl rfl (show a.eval (.tmp 40) = .bool true from (hm.get 13 40 (by kernel_rfl))))
            clear hW
            rw [if_neg (show ¬ (true == false) = true by decide)]
            exact rfl
        | 18, _, ho => by
            cases ho
            generalize hW : Region.wanted _ _ = W
            obtain rfl : W = (true == false) := hW.symm.trans (wanted_of rfl rfl rfl (show a.eval (.tmp 40) = .bool true from (hm.get 13 40 (by kernel_rfl))))
            clear hW
            rw [if_neg (show ¬ (true == false) = true by decide)]
            exact rfl
        | 19, _, ho => by
            cases ho
            generalize hW : Region.wanted _ _ = W
            obtain rfl : W = (true == true) := hW.symm.trans (wanted_of rfl rfl rfl (show a.eval (.tmp 32) = .bool true from (hm.get 5 32 (by kernel_rfl))))
            clear hW
            rw [if_pos (show (true == true) = true by decide)]
            have h1 := eval_getD (hm.get 13 40 (by kernel_rfl)); unfold Oper.wp; simp only [execOp]; go_simp; exact ⟨_, rfl, rfl, Below.refl _ _⟩
        | 20, _, ho => by
            cases ho
            rw [if_pos (wanted_none _ rfl)]
            have h1 := eval_getD (hm.get 5 32 (by kernel_rfl)); have h3 := eval_getD (hm.get 19 46 (by kernel_rfl)); unfold Oper.wp; simp only [execOp]; go_simp; exact ⟨_, rfl, rfl, Below.refl _ _⟩
        | (n + 21), hi, _ => absurd hi (by omega)

    have e1 : a.eval (.tmp 47) = .bool true := by cases ho; exact hm.get 20 47 (by kernel_rfl)
    have hfr := hs.frame [27, 28, 29, 30, 31, 32, 33, 34, 35, 36, 37, 38, 39, 40, 41, 42, 43, 44, 45, 46, 47, 8] (by kernel_rfl)
    have B9 := Lib.hid hb
    cases ho
    rw [hfr]
    simp only [List.foldl_cons, List.foldl_nil, e1]
    clear hfr hs hm e1 hb
    generalize a.eval (.tmp 27) = u27
    generalize a.eval (.tmp 28) = u28
    generalize a.eval (.tmp 29) = u29
    generalize a.eval (.tmp 30) = u30
    generalize a.eval (.tmp 31) = u31
    generalize a.eval (.tmp 32) = u32
    generalize a.eval (.tmp 33) = u33
    generalize a.eval (.tmp 34) = u34
    generalize a.eval (.tmp 35) = u35
    generalize a.eval (.tmp 36) = u36
    generalize a.eval (.tmp 37) = u37
    generalize a.eval (.tmp 38) = u38
    generalize a.eval (.tmp 39) = u39
    generalize a.eval (.tmp 40) = u40
    generalize a.eval (.tmp 41) = u41
    generalize a.eval (.tmp 42) = u42
    generalize a.eval (.tmp 43) = u43
    generalize a.eval (.tmp 44) = u44
    generalize a.eval (.tmp 45) = u45
    generalize a.eval (.tmp 46) = u46
    generalize a.eval (.tmp 8) = u8
    unfold Oper.wp
    simp only [execOp]
    go_simp
    clear a
    go_wp2
    go_ret
    exact ⟨rfl, bstep Bg.out B9.out⟩
  · refine wp_region_guards (by kernel_rfl) 21 (by kernel_rfl) ?_ (wsmdPhi q g3 A8 c8 B N s eid now) wsmdPhi_mono (fun i9 o hi ho a w hb hs hm => ?_) (fun o ho a w5 hb hs hm => ?_)
    · exact dst_ltC2 (n := 48) (by kernel_rfl)
    · exact match i9, hi, ho with
        | 0, _, ho => by
            cases ho
            rw [if_pos (wanted_none _ rfl)]
            refine wp_value (st_move rfl ((hs.keeps (by kernel_rfl)).trans rfl)) ⟨_, rfl, rfl, Below.refl _ _⟩
        | 1, _, ho => by
            cases ho
            rw [if_pos (wanted_none _ rfl)]
            have h1 := eval_getD (hm.get 0 27 (by kernel_rfl)); unfold Oper.wp; simp only [execOp]; go_simp; exact ⟨_, rfl, (by first | rfl | simp), Below.refl _ _⟩
        | 2, _, ho => by
            cases ho
            rw [if_pos (wanted_none _ rfl)]
            refine wp_value (st_move rfl (hm.get 1 28 (by kernel_rfl))) ⟨_, rfl, rfl, Below.refl _ _⟩
        | 3, _, ho => by
            cases ho
            generalize hW : Region.wanted _ _ = W
            obtain rfl : W = (true == true) := hW.symm.trans (wanted_of rfl rfl rfl (show a.eval (.tmp 29) = .bool true from (hm.get 2 29 (by kernel_rfl))))
            clear hW
            rw [if_pos (show (true == true) = true by decide)]
            refine wp_value (st_move rfl ((hs.keeps (by kernel_rfl)).trans rfl)) ⟨_, rfl, rfl, Below.refl _ _⟩
        | 4, _, ho => by
            cases ho
            rw [if_pos (wanted_none _ rfl)]
            have h1 := eval_getD (hm.get 2 29 (by kernel_rfl)); have h3 := eval_getD (hm.get 3 30 (by kernel_rfl)); unfold Oper.wp; simp only [execOp]; go_simp; exact ⟨_, rfl, rfl, Below.refl _ _⟩
        | 5, _, ho => by
            cases ho
            rw [if_pos (wanted_none _ rfl)]
            refine wp_value (st_move rfl (hm.get 4 31 (by kernel_rfl))) ⟨_, rfl, rfl, Below.refl _ _⟩
        | 6, _, ho => by
            cases ho
            generalize hW : Region.wanted _ _ = W
            obtain rfl : W = (true == true) := hW.symm.trans (wanted_of rfl rfl rfl (show a.eval (.tmp 32) = .bool true from (hm.get 5 32 (by kernel_rfl))))
            clear hW
            rw [if_pos (show (true == true) = true by decide)]
            refine wp_value (st_move rfl ((hs.keeps (by kernel_rfl)).trans rfl)) ⟨_, rfl, rfl, Below.refl _ _⟩
        | 7, _, ho => by
            cases ho
            generalize hW : Region.wanted _ _ = W
            obtain rfl : W = (true == true) := hW.symm.trans (wanted_of rfl rfl rfl (show a.eval (.tmp 32) = .bool true from (hm.get 5 32 (by kernel_rfl))))
            clear hW
            rw [if_pos (show (true == true) = true by decide)]
            refine wp_value (st_move rfl ((hs.keeps (by kernel_rfl)).trans rfl)) ⟨_, rfl, rfl, Below.refl _ _⟩
        | 8, _, ho => by
            cases ho
            generalize hW : Region.wanted _ _ = W
            obtain rfl : W = (true == true) := hW.symm.trans (wanted_of rfl rfl rfl (show a.eval (.tmp 32) = .bool true from (hm.get 5 32 (by kernel_rfl))))
            clear hW
            rw [if_pos (show (true == true) = true by decide)]
            refine wp_value (st_move rfl ((hs.keeps (by kernel_rfl)).trans rfl)) ⟨_, rfl, rfl, Below.refl _ _⟩
        | 9, _, ho => by
            cases ho
            generalize hW : Region.wanted _ _ = W
            obtain rfl : W = (true == true) := hW.symm.trans (wanted_of rfl rfl rfl (show a.eval (.tmp 32) = .bool true from (hm.get 5 32 (by kernel_rfl))))
            clear hW
            rw [if_pos (show (true == true) = true by decide)]
            have h1 := eval_getD (hm.get 8 35 (by kernel_rfl)); unfold Oper.wp; simp only [execOp]; go_simp; exact ⟨_, rfl, (by first | rfl | simp), Below.refl _ _⟩
        | 10, _, ho => by
            cases ho
            generalize hW : Region.wanted _ _ = W
            obtain rfl : W = (true == true) := hW.symm.trans (wanted_of rfl rfl rfl (show a.eval (.tmp 32) = .bool true from (hm.get 5 32 (by kernel_rfl))))
            clear hW
            rw [if_pos (show (true == true) = true by decide)]
            refine wp_value (st_move rfl ((hs.keeps (by kernel_rfl)).trans rfl)) ⟨_, rfl, rfl, Below.refl _ _⟩
        | 11, _, ho => by
            cases ho
            generalize hW : Region.wanted _ _ = W
            obtain rfl : W = (true == true) := hW.symm.trans (wanted_of rfl rfl rfl (show a.eval (.tmp 32) = .bool true from (hm.get 5 32 (by kernel_rfl))))
            clear hW
            rw [if_pos (show (true == true) = true by decide)]
            refine wp_value (st_move rfl ((hs.keeps (by kernel_rfl)).trans rfl)) ⟨_, rfl, rfl, Below.refl _ _⟩
        | 12, _, ho => by
            cases ho
            generalize hW : Region.wanted _ _ = W
            obtain rfl : W = (true == true) := hW.symm.trans (wanted_of rfl rfl rfl (show a.eval (.tmp 32) = .bool true from (hm.get 5 32 (by kernel_rfl))))
            clear hW
            rw [if_pos (show (true == true) = true by decide)]
            have h1 := eval_getD (hm.get 6 33 (by kernel_rfl)); have h2 := eval_getD (hm.get 7 34 (by kernel_rfl)); have h3 := eval_getD (hm.get 9 36 (by kernel_rfl)); have h4 := eval_getD (hm.get 10 37 (by kernel_rfl)); have h5 := eval_getD (hm.get 11 38 (by kernel_rfl)); unfold Oper.wp; simp only [execOp]; go_simp; refine (CF.out w hb).mono ?_; rintro e w6 ⟨rfl, b6⟩; exact ⟨_, rfl, rfl, b6⟩
        | 13, _, ho => by
            cases ho
            generalize hW : Region.wanted _ _ = W
            obtain rfl : W = (true == true) := hW.symm.trans (wanted_of rfl rfl rfl (show a.eval (.tmp 32) = .bool true from (hm.get 5 32 (by kernel_rfl))))
            clear hW
            rw [if_pos (show (true == true) = true by decide)]
            refine wp_value (st_move rfl (hm.get 12 39 (by kernel_rfl))) ⟨_, rfl, rfl, Below.refl _ _⟩
        | 14, _, ho => by
            cases ho
            generalize hW : Region.wanted _ _ = W
            obtain rfl : W = (false == false) := hW.symm.trans (wanted_of rfl rfl rfl (show a.eval (.tmp 40) = .bool false from (hm.get 13 40 (by kernel_rfl))))
            clear hW
            rw [if_pos (show (false == false) = true by decide)]
            refine wp_value (st_field rfl ((hs.keeps (by kernel_rfl)).trans rfl) (by kernel_rfl)) ⟨_, rfl, rfl, Below.refl _ _⟩
        | 15, _, ho => by
            cases ho
            generalize hW : Region.wanted _ _ = W
            obtain rfl : W = (false == false) := hW.symm.trans (wanted_of rfl rfl rfl (show a.eval (.tmp 40) = .bool false from (hm.get 13 40 (by kernel_rfl))))
            clear hW
            rw [if_pos (show (false == false) = true by decide)]
            have hx : w.cell? ⟨g3, 2, none⟩ = some (S eid) := (HE3.out.step hb).cell 2; refine wp_value (st_load rfl (hm.get 14 41 (by kernel_rfl)) (by go_simp)) ⟨_, rfl, rfl, Below.refl _ _⟩
        | 16, _, ho => by
            cases ho
            generalize hW : Region.wanted _ _ = W
            obtain rfl : W = (false == false) := hW.symm.trans (wanted_of rfl rfl rfl (show a.eval (.tmp 40) = .bool false from (hm.get 13 40 (by kernel_rfl))))
            clear hW
            rw [if_pos (show (false == false) = true by decide)]
            refine wp_value (st_move rfl ((hs.keeps (by kernel_rfl)).trans rfl)) ⟨_, rfl, rfl, Below.refl _ _⟩
        | 17, _, ho => by
            cases ho
            generalize hW : Region.wanted _ _ = W
            obtain rfl : W = (false == false) := hW.symm.trans (wanted_of rfl rfl rfl (show a.eval (.tmp 40) = .bool false from (hm.get 13 40 (by kernel_rfl))))
            clear hW
            rw [if_pos (show (false == false) = true by decide)]
            have h1 := eval_getD (hm.get 16 43 (by kernel_rfl)); unfold Oper.wp; simp only [execOp]; go_simp; refine (CI.out w hb).mono ?_; rintro e w6 ⟨rfl, b6⟩; exact ⟨_, rfl, rfl, b6⟩
        | 18, _, ho => by
            cases ho
            generalize hW : Region.wanted _ _ = W
            obtain rfl : W = (false == false) := hW.symm.trans (wanted_of rfl rfl rfl (show a.eval (.tmp 40) = .bool false from (hm.get 13 40 (by kernel_rfl))))
            clear hW
            rw [if_pos (show (false == false) = true by decide)]
            have h1 := eval_getD (hm.get 15 42 (by kernel_rfl)); have h2 := eval_getD (hm.get 17 44 (by kernel_rfl)); unfold Oper.wp; simp only [execOp]; go_simp; exact ⟨_, rfl, (by first | rfl | simp), Below.refl _ _⟩
        | 19, _, ho => by
            cases ho
            generalize hW : Region.wanted _ _ = W
            obtain rfl : W = (true == true) := hW.symm.trans (wanted_of rfl rfl rfl (show a.eval (.tmp 32) = .bool true from (hm.get 5 32 (by kernel_rfl))))
            clear hW
            rw [if_pos (show (true == true) = true by decide)]
            have h1 := eval_getD (hm.get 13 40 (by kernel_rfl)); have h3 := eval_getD (hm.get 18 45 (by kernel_rfl)); unfold Oper.wp; simp only [execOp]; go_simp; exact ⟨_, rfl, rfl, Below.refl _ _⟩
        | 20, _, ho => by
            cases ho
            rw [if_pos (wanted_none _ rfl)]
            have h1 := eval_getD (hm.get 5 32 (by kernel_rfl)); have h3 := eval_getD (hm.get 19 46 (by kernel_rfl)); unfold Oper.wp; simp only [execOp]; go_simp; exact ⟨_, rfl, rfl, Below.refl _ _⟩
        | (n + 21), hi, _ => absurd hi (by omega)

    have e1 : a.eval (.tmp 47) = .bool true := by cases ho; exact hm.get 20 47 (by kernel_rfl)
    have hfr := hs.frame [27, 28, 29, 30, 31, 32, 33, 34, 35, 36, 37, 38, 39, 40, 41, 42, 43, 44, 45, 46, 47, 8] (by kernel_rfl)
    have B9 := Lib.hid hb
    cases ho
    rw [hfr]
    simp only [List.foldl_cons, List.foldl_nil, e1]
    clear hfr hs hm e1 hb
    generalize a.eval (.tmp 27) = u27
    generalize a.eval (.tmp 28) = u28
    generalize a.eval (.tmp 29) = u29
    generalize a.eval (.tmp 30) = u30
    generalize a.eval (.tmp 31) = u31
    generalize a.eval (.tmp 32) = u32
    generalize a.eval (.tmp 33) = u33
    generalize a.eval (.tmp 34) = u34
    generalize a.eval (.tmp 35) = u35
    generalize a.eval (.tmp 36) = u36
    generalize a.eval (.tmp 37) = u37
    generalize a.eval (.tmp 38) = u38
    generalize a.eval (.tmp 39) = u39
    generalize a.eval (.tmp 40) = u40
    generalize a.eval (.tmp 41) = u41
    generalize a.eval (.tmp 42) = u42
    generalize a.eval (.tmp 43) = u43
    generalize a.eval (.tmp 44) = u44
    generalize a.eval (.tmp 45) = u45
    generalize a.eval (.tmp 46) = u46
    generalize a.eval (.tmp 8) = u8
    unfold Oper.wp
    simp only [execOp]
    go_simp
    clear a
    go_wp2
    go_ret
    exact ⟨rfl, bstep Bg.out B9.out⟩
  · refine wp_region_guards (by kernel_rfl) 21 (by kernel_rfl) ?_ (wsmePhi q g3 A8 c8 B N s eid own now) wsmePhi_mono (fun i9 o hi ho a w hb hs hm => ?_) (fun o ho a w5 hb hs hm => ?_)
    · exact dst_ltC2 (n := 48) (by kernel_rfl)
    · exact match i9, hi, ho with
        | 0, _, ho => by
            cases ho
            rw [if_pos (wanted_none _ rfl)]
            refine wp_value (st_move rfl ((hs.keeps (by kernel_rfl)).trans rfl)) ⟨_, rfl, rfl, Below.refl _ _⟩
        | 1, _, ho => by
            cases ho
            rw [if_pos (wanted_none _ rfl)]
            have h1 := eval_getD (hm.get 0 27 (by kernel_rfl)); unfold Oper.wp; simp only [execOp]; go_simp; exact ⟨_, rfl, (by first | rfl | simp), Below.refl _ _⟩
        | 2, _, ho => by
            cases ho
            rw [if_pos (wanted_none _ rfl)]
            refine wp_value (st_move rfl (hm.get 1 28 (by kernel_rfl))) ⟨_, rfl, rfl, Below.refl _ _⟩
        | 3, _, ho => by
            cases ho
            generalize hW : Region.wanted _ _ = W
            obtain rfl : W = (true == true) := hW.symm.trans (wanted_of rfl rfl rfl (show a.eval (.tmp 29) = .bool true from (hm.get 2 29 (by kernel_rfl))))
            clear hW
            rw [if_pos (show (true == true) = true by decide)]
            refine wp_value (st_move rfl ((hs.keeps (by kernel_rfl)).trans rfl)) ⟨_, rfl, rfl, Below.refl _ _⟩
        | 4, _, ho => by
            cases ho
            rw [if_pos (wanted_none _ rfl)]
            have h1 := eval_getD (hm.get 2 29 (by kernel_rfl)); have h3 := eval_getD (hm.get 3 30 (by kernel_rfl)); unfold Oper.wp; simp only [execOp]; go_simp; exact ⟨_, rfl, rfl, Below.refl _ _⟩
        | 5, _, ho => by
            cases ho
            rw [if_pos (wanted_none _ rfl)]
            refine wp_value (st_move rfl (hm.get 4 31 (by kernel_rfl))) ⟨_, rfl, rfl, Below.refl _ _⟩
        | 6, _, ho => by
            cases ho
            generalize hW : Region.wanted _ _ = W
            obtain rfl : W = (true == true) := hW.symm.trans (wanted_of rfl rfl rfl (show a.eval (.tmp 32) = .bool true from (hm.get 5 32 (by kernel_rfl))))
            clear hW
            rw [if_pos (show (true == true) = true by decide)]
            refine wp_value (st_move rfl ((hs.keeps (by kernel_rfl)).trans rfl)) ⟨_, rfl, rfl, Below.refl _ _⟩
        | 7, _, ho => by
            cases ho
            generalize hW : Region.wanted _ _ = W
            obtain rfl : W = (true == true) := hW.symm.trans (wanted_of rfl rfl rfl (show a.eval (.tmp 32) = .bool true from (hm.get 5 32 (by kernel_rfl))))
            clear hW
            rw [if_pos (show (true == true) = true by decide)]
            refine wp_value (st_move rfl ((hs.keeps (by kernel_rfl)).trans rfl)) ⟨_, rfl, rfl, Below.refl _ _⟩
        | 8, _, ho => by
            cases ho
            generalize hW : Region.wanted _ _ = W
            obtain rfl : W = (true == true) := hW.symm.trans (wanted_of rfl rfl rfl (show a.eval (.tmp 32) = .bool true from (hm.get 5 32 (by kernel_rfl))))
            clear hW
            rw [if_pos (show (true == true) = true by decide)]
            refine wp_value (st_move rfl ((hs.keeps (by kernel_rfl)).trans rfl)) ⟨_, rfl, rfl, Below.refl _ _⟩
        | 9, _, ho => by
            cases ho
            generalize hW : Region.wanted _ _ = W
            obtain rfl : W = (true == true) := hW.symm.trans (wanted_of rfl rfl rfl (show a.eval (.tmp 32) = .bool true from (hm.get 5 32 (by kernel_rfl))))
            clear hW
            rw [if_pos (show (true == true) = true by decide)]
            have h1 := eval_getD (hm.get 8 35 (by kernel_rfl)); unfold Oper.wp; simp only [execOp]; go_simp; exact ⟨_, rfl, (by first | rfl | simp), Below.refl _ _⟩
        | 10, _, ho => by
            cases ho
            generalize hW : Region.wanted _ _ = W
            obtain rfl : W = (true == true) := hW.symm.trans (wanted_of rfl rfl rfl (show a.eval (.tmp 32) = .bool true from (hm.get 5 32 (by kernel_rfl))))
            clear hW
            rw [if_pos (show (true == true) = true by decide)]
            refine wp_value (st_move rfl ((hs.keeps (by kernel_rfl)).trans rfl)) ⟨_, rfl, rfl, Below.refl _ _⟩
        | 11, _, ho => by
            cases ho
            generalize hW : Region.wanted _ _ = W
            obtain rfl : W = (true == true) := hW.symm.trans (wanted_of rfl rfl rfl (show a.eval (.tmp 32) = .bool true from (hm.get 5 32 (by kernel_rfl))))
            clear hW
            rw [if_pos (show (true == true) = true by decide)]
            refine wp_value (st_move rfl ((hs.keeps (by kernel_rfl)).trans rfl)) ⟨_, rfl, rfl, Below.refl _ _⟩
        | 12, _, ho => by
            cases ho
            generalize hW : Region.wanted _ _ = W
            obtain rfl : W = (true == true) := hW.symm.trans (wanted_of rfl rfl rfl (show a.eval (.tmp 32) = .bool true from (hm.get 5 32 (by kernel_rfl))))
            clear hW
            rw [if_pos (show (true == true) = true by decide)]
            have h1 := eval_getD (hm.get 6 33 (by kernel_rfl)); have h2 := eval_getD (hm.get 7 34 (by kernel_rfl)); have h3 := eval_getD (hm.get 9 36 (by kernel_rfl)); have h4 := eval_getD (hm.get 10 37 (by kernel_rfl)); have h5 := eval_getD (hm.get 11 38 (by kernel_rfl)); unfold Oper.wp; simp only [execOp]; go_simp; refine (CF.out w hb).mono ?_; rintro e w6 ⟨rfl, b6⟩; exact ⟨_, rfl, rfl, b6⟩
        | 13, _, ho => by
            cases ho
            generalize hW : Region.wanted _ _ = W
            obtain rfl : W = (true == true) := hW.symm.trans (wanted_of rfl rfl rfl (show a.eval (.tmp 32) = .bool true from (hm.get 5 32 (by kernel_rfl))))
            clear hW
            rw [if_pos (show (true == true) = true by decide)]
            refine wp_value (st_move rfl (hm.get 12 39 (by kernel_rfl))) ⟨_, rfl, rfl, Below.refl _ _⟩
        | 14, _, ho => by
            cases ho
            generalize hW : Region.wanted _ _ = W
            obtain rfl : W = (false == false) := hW.symm.trans (wanted_of rfl rfl rfl (show a.eval (.tmp 40) = .bool false from (hm.get 13 40 (by kernel_rfl))))
            clear hW
            rw [if_pos (show (false == false) = true by decide)]
            refine wp_value (st_field rfl ((hs.keeps (by kernel_rfl)).trans rfl) (by kernel_rfl)) ⟨_, rfl, rfl, Below.refl _ _⟩
        | 15, _, ho => by
            cases ho
            generalize hW : Region.wanted _ _ = W
            obtain rfl : W = (false == false) := hW.symm.trans (wanted_of rfl rfl rfl (show a.eval (.tmp 40) = .bool false from (hm.get 13 40 (by kernel_rfl))))
            clear hW
            rw [if_pos (show (false == false) = true by decide)]
            have hx : w.cell? ⟨g3, 2, none⟩ = some (S eid) := (HE3.out.step hb).cell 2; refine wp_value (st_load rfl (hm.get 14 41 (by kernel_rfl)) (by go_simp)) ⟨_, rfl, rfl, Below.refl _ _⟩
        | 16, _, ho => by
            cases ho
            generalize hW : Region.wanted _ _ = W
            obtain rfl : W = (false == false) := hW.symm.trans (wanted_of rfl rfl rfl (show a.eval (.tmp 40) = .bool false from (hm.get 13 40 (by kernel_rfl))))
            clear hW
            rw [if_pos (show (false == false) = true by decide)]
            refine wp_value (st_move rfl ((hs.keeps (by kernel_rfl)).trans rfl)) ⟨_, rfl, rfl, Below.refl _ _⟩
        | 17, _, ho => by
            cases ho
            generalize hW : Region.wanted _ _ = W
            obtain rfl : W = (false == false) := hW.symm.trans (wanted_of rfl rfl rfl (show a.eval (.tmp 40) = .bool false from (hm.get 13 40 (by kernel_rfl))))
            clear hW
            rw [if_pos (show (false == false) = true by decide)]
            have h1 := eval_getD (hm.get 16 43 (by kernel_rfl)); unfold Oper.wp; simp only [execOp]; go_simp; refine (CI.out w hb).mono ?_; rintro e w6 ⟨rfl, b6⟩; exact ⟨_, rfl, rfl, b6⟩
        | 18, _, ho => by
            cases ho
            generalize hW : Region.wanted _ _ = W
            obtain rfl : W = (false == false) := hW.symm.trans (wanted_of rfl rfl rfl (show a.eval (.tmp 40) = .bool false from (hm.get 13 40 (by kernel_rfl))))
            clear hW
            rw [if_pos (show (false == false) = true by decide)]
            have h1 := eval_getD (hm.get 15 42 (by kernel_rfl)); have h2 := eval_getD (hm.get 17 44 (by kernel_rfl)); unfold Oper.wp; simp only [execOp]; go_simp; exact ⟨_, rfl, (show Value.bool _ = Value.bool _ by rfl), Below.refl _ _⟩
        | 19, _, ho => by
            cases ho
            generalize hW : Region.wanted _ _ = W
            obtain rfl : W = (true == true) := hW.symm.trans (wanted_of rfl rfl rfl (show a.eval (.tmp 32) = .bool true from (hm.get 5 32 (by kernel_rfl))))
            clear hW
            rw [if_pos (show (true == true) = true by decide)]
            have h1 := eval_getD (hm.get 13 40 (by kernel_rfl)); have h3 := eval_getD (hm.get 18 45 (by kernel_rfl)); unfold Oper.wp; simp only [execOp]; go_simp; exact ⟨_, rfl, rfl, Below.refl _ _⟩
        | 20, _, ho => by
            cases ho
            rw [if_pos (wanted_none _ rfl)]
            have h1 := eval_getD (hm.get 5 32 (by kernel_rfl)); have h3 := eval_getD (hm.get 19 46 (by kernel_rfl)); unfold Oper.wp; simp only [execOp]; go_simp; exact ⟨_, rfl, rfl, Below.refl _ _⟩
        | (n + 21), hi, _ => absurd hi (by omega)

    have e1 : a.eval (.tmp 47) = .bool false := by cases ho; exact hm.get 20 47 (by kernel_rfl)
    have hfr := hs.frame [27, 28, 29, 30, 31, 32, 33, 34, 35, 36, 37, 38, 39, 40, 41, 42, 43, 44, 45, 46, 47, 8] (by kernel_rfl)
    have B9 := Lib.hid hb
    cases ho
    rw [hfr]
    simp only [List.foldl_cons, List.foldl_nil, e1]
    clear hfr hs hm e1 hb
    generalize a.eval (.tmp 27) = u27
    generalize a.eval (.tmp 28) = u28
    generalize a.eval (.tmp 29) = u29
    generalize a.eval (.tmp 30) = u30
    generalize a.eval (.tmp 31) = u31
    generalize a.eval (.tmp 32) = u32
    generalize a.eval (.tmp 33) = u33
    generalize a.eval (.tmp 34) = u34
    generalize a.eval (.tmp 35) = u35
    generalize a.eval (.tmp 36) = u36
    generalize a.eval (.tmp 37) = u37
    generalize a.eval (.tmp 38) = u38
    generalize a.eval (.tmp 39) = u39
    generalize a.eval (.tmp 40) = u40
    generalize a.eval (.tmp 41) = u41
    generalize a.eval (.tmp 42) = u42
    generalize a.eval (.tmp 43) = u43
    generalize a.eval (.tmp 44) = u44
    generalize a.eval (.tmp 45) = u45
    generalize a.eval (.tmp 46) = u46
    generalize a.eval (.tmp 8) = u8
    unfold Oper.wp
    simp only [execOp]
    go_simp
    clear a
    go_wp2
    go_ret
    exact ⟨rfl, bstep Bg.out B9.out⟩
end Go.Proofs.YtphnfcgdpdimbaaGreatDoor

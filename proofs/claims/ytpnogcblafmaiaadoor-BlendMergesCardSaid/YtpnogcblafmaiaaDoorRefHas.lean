/-
  dolmenref17: has, closed, same. Conditions: slices read as lists; hunks and lines are few.
-/
import Derived.Test.YtpnogcblafmaiaaDoorLineSim
import Derived.Test.YtpnogcblafmaiaaDoorLineSplits
import Derived.Test.YtpnogcblafmaiaaDoorConcat
import Derived.Test.YtpnogcblafmaiaaDoorBlendLaw6
import Derived.Test.YtpnogcblafmaiaaDoorBlendLaw4
namespace Go.Proofs.YtpnogcblafmaiaaDoor
open Go.RowKit
open LineLaw (Hk)
open BlendLaw (dlIf fromI toI)

/-- hunks in bounds -/
def Few (hs : List Hk) : Prop := ∀ h ∈ hs, h.a0 ≤ 1000000 ∧ h.a1 ≤ 1000000 ∧ h.b0 ≤ 1000000 ∧ h.b1 ≤ 1000000
theorem dlIf_few {p : Hk → Bool} : ∀ {hs : List Hk}, Few hs → -(hs.length * 2000000 : Int) ≤ dlIf p hs ∧ dlIf p hs ≤ hs.length * 2000000
  | [], _ => by simp [dlIf]
  | h :: t, hf => by
    obtain ⟨h1, h2, h3, h4⟩ := hf h (by simp)
    have ih := dlIf_few (p := p) (hs := t) (fun x hx => hf x (by simp [hx]))
    simp only [dlIf, List.length_cons]
    split <;> omega
theorem dlIf_snoc {p : Hk → Bool} {hs : List Hk} {k : Nat} {x : Hk} (hx : hs[k]? = some x) : dlIf p (hs.take (k + 1)) = dlIf p (hs.take k) + (if p x = true then (x.b1 : Int) - x.b0 - ((x.a1 : Int) - x.a0) else 0) := by
  rw [List.take_add_one, hx, BlendLaw.dlIf_append]
  simp [dlIf]
theorem Few.take {hs : List Hk} (h : Few hs) (k : Nat) : Few (hs.take k) := fun x hx => h x (List.mem_of_mem_take hx)

set_option maxHeartbeats 2000000 in
theorem refHas_any (A : Option Addr) (n c : Nat) (H : Option Addr) (m d : Nat) (hs : List Hk) (lo hi p q : Nat) (w : World) (hc : n ≤ c) (hH : Sl w 4 H m (hks hs)) (hf : Few hs) (hm : m ≤ 1000000) (hlo : lo ≤ 1000000) (hhi : hi ≤ 1000000)
    (hp : fromI hs lo = p) (hq : toI hs hi = q) (hpq : p ≤ q) (hqn : q ≤ n) :
    Calls Tryd.prog 46 #[.slice A n c, .slice H m d, I lo, I hi] w fun e w' => e = .returned (.slice (cutA A c p 1) (q - p) (c - p)) ∧ ∃ mm, w' = w.drewN mm := by
  have HH := Lib.hid hH
  have Hlen := Lib.hid (hks_count hH)
  have Hf := Lib.hid hf
  have Hp := Lib.hid hp
  have Hq := Lib.hid hq
  have kX := fun W : World => run_cut_lh (P := Tryd.prog) W Tryd.underlying22 Tryd.sizeStr A n c .i64 .i64 p q hpq (by omega)
  clear hH hf hp hq
  go_enter Tryd.func46, Tryd.ntmps46
  go_wp2
  go_loopw [9, 10, 11] (fun s9 s10 s11 wr => ∃ (k mm : Nat) (f t : Int), k ≤ m ∧ s11 = .int .i64 k ∧ s9 = .int .i64 f ∧ s10 = .int .i64 t ∧ wr = w.drewN mm ∧ Hid (f = lo + dlIf (fun h => decide (h.a1 < lo)) (hs.take k)) ∧ Hid (t = hi + dlIf (fun h => decide (h.a1 ≤ hi)) (hs.take k))) (fun _ _ s11 _ => m - (intOf s11).toNat)
  case atStart => exact ⟨0, 0, lo, hi, Nat.zero_le _, rfl, rfl, rfl, rfl, Lib.hid (by simp [dlIf]), Lib.hid (by simp [dlIf])⟩
  case round =>
    obtain ⟨k, mm, f, t, hk, rfl, rfl, rfl, rfl, HF, HT⟩ := hrel
    by_cases hlt : k < m
    · obtain ⟨b, off, x, rfl, hb, hx, x0, x1, x2, x3⟩ := HH.out.hunk hlt
      have hxf := Hf.out x (List.mem_of_getElem? hx)
      obtain ⟨f0, f1, f2, f3⟩ := hxf
      have bf := dlIf_few (p := fun h => decide (h.a1 < lo)) (Hf.out.take k)
      have bt := dlIf_few (p := fun h => decide (h.a1 ≤ hi)) (Hf.out.take k)
      have hkl : (hs.take k).length ≤ k := List.length_take_le _ _
      have sf := dlIf_snoc (p := fun h => decide (h.a1 < lo)) hx
      have st := dlIf_snoc (p := fun h => decide (h.a1 ≤ hi)) hx
      have f4 := HF.out
      have f5 := HT.out
      obtain ⟨D, hD⟩ : ∃ D : Int, (x.b1 : Int) - x.b0 - ((x.a1 : Int) - x.a0) = D := ⟨_, rfl⟩
      rw [hD] at sf st
      have g0 : -3000000000000 ≤ f ∧ f ≤ 3000000000000 := by omega
      have g1 : -3000000000000 ≤ t ∧ t ≤ 3000000000000 := by omega
      have g2 : -3000000000000 ≤ f + D ∧ f + D ≤ 3000000000000 := by omega
      have g3 : -3000000000000 ≤ t + D ∧ t + D ≤ 3000000000000 := by omega
      have W1 : IntKind.i64.wrap ((x.b1 : Int) - x.b0) = (x.b1 : Int) - x.b0 := IntWalk.i64_in _ (by omega)
      have W2 : IntKind.i64.wrap ((x.a1 : Int) - x.a0) = (x.a1 : Int) - x.a0 := IntWalk.i64_in _ (by omega)
      have W3 : IntKind.i64.wrap ((x.b1 : Int) - x.b0 - ((x.a1 : Int) - x.a0)) = D := by rw [hD]; exact IntWalk.i64_in _ (by omega)
      obtain ⟨g00, g01⟩ := g0
      obtain ⟨g10, g11⟩ := g1
      obtain ⟨g20, g21⟩ := g2
      obtain ⟨g30, g31⟩ := g3
      have Sf := Lib.hid sf
      have St := Lib.hid st
      clear hx bf bt hkl sf st f4 f5 hD f0 f1 f2 f3
      have hways : decide (x.a1 < lo) = true ∨ decide (x.a1 < lo) = false := by cases decide (x.a1 < lo) <;> simp
      have hways2 : decide (x.a1 ≤ hi) = true ∨ decide (x.a1 ≤ hi) = false := by cases decide (x.a1 ≤ hi) <;> simp
      go_wp2
      go_quiet (fail)
      clear W1 W2 W3
      rcases hways with d1 | d1
      all_goals
        rcases hways2 with d2 | d2
        all_goals
          go_wp2
          go_roundw
          case rel =>
            refine ⟨k + 1, _, _, _, by omega, by go_num, rfl, rfl, rfl, Lib.hid ?_, Lib.hid ?_⟩
            · rw [Sf.out, HF.out, d1]; simp; try omega
            · rw [St.out, HT.out, d2]; simp; try omega
          case measure => simp [intOf]; omega
    · obtain rfl : k = m := by omega
      have hall : hs.take k = hs := List.take_of_length_le (by rw [Hlen.out]; exact Nat.le_refl _)
      rw [hall] at HF HT
      obtain rfl : f = (p : Int) := by rw [HF.out, ← Hp.out]; rfl
      obtain rfl : t = (q : Int) := by rw [HT.out, ← Hq.out]; rfl
      clear hall HF HT
      go_wp2
      go_ret
      exact ⟨rfl, _, rfl⟩
set_option maxHeartbeats 1000000 in
set_option maxRecDepth 100000 in
theorem refClosed_any (A : Option Addr) (n c : Nat) (l : List (List UInt8)) (w : World) (hA : Sl w 1 A n (strs l)) (hn : n ≤ 100000) (hne : ∀ s ∈ l, s ≠ []) (hshort : ∀ s ∈ l, s.length ≤ 1000000) :
    Calls Tryd.prog 48 #[.slice A n c] w fun e w' => ∃ A' c', e = .returned (.slice A' n c') ∧ Ow w w' 9 1 A' n c' (strs (BlendLaw.closed l)) := by
  obtain ⟨i0, hi0, hz0, hz1, hz2⟩ := info_parts Tryd.infoStr
  have hlen := strs_len hA
  have HA := Lib.hid hA
  have q1 : 0 + n ≤ maxLen := by simp only [maxLen]; omega
  have q2 : (0 + n) * 16 ≤ 140737488355328 := by omega
  clear hA
  rcases Nat.eq_zero_or_pos n with h0 | h0
  · subst h0
    obtain rfl : l = [] := List.eq_nil_of_length_eq_zero hlen
    clear hne hshort hlen
    go_enter Tryd.func48, Tryd.ntmps48
    go_wp2_with (at_builtin; refine wpList_append_sl _ rfl (.tmp 5) (.tmp 6) _ rfl w 9 i0 _ 1 16 Tryd.underlying22 hi0 hz0 hz1 hz2 rfl Nat.one_pos none 0 0 [] rfl (Ow.nil_ (Below.refl _ _)) A 0 _ (strs []) rfl HA.out (one_strs _) q1 q2 ?_; intro A3 c3 w3 hO3 hg3 hat3)
    go_ret
    exact ⟨A3, c3, rfl, hO3⟩
  · obtain ⟨k, hk⟩ : ∃ k, n = k + 1 := ⟨n - 1, by omega⟩
    obtain ⟨s, hs⟩ : ∃ s, l[k]? = some s := ⟨l[k]'(by omega), List.getElem?_eq_getElem _⟩
    have hcl := closed_at (hk ▸ hlen) hs
    have hsm := hne s (List.mem_of_getElem? hs)
    have hss := hshort s (List.mem_of_getElem? hs)
    obtain ⟨q, hq⟩ : ∃ q, s.length = q + 1 := ⟨s.length - 1, by have := List.length_pos_iff.2 hsm; omega⟩
    have hqs : q < s.length := by omega
    obtain ⟨x, hx⟩ : ∃ x, s[q]'hqs = x := ⟨_, rfl⟩
    have hfe : BlendLaw.feedEnd s = (x == 10) := by
      unfold BlendLaw.feedEnd
      rw [List.getLast?_eq_getElem?, hq, Nat.add_sub_cancel, List.getElem?_eq_getElem hqs, hx]
      rfl
    rw [hfe] at hcl
    have Hs := Lib.hid hs
    have Hcl := Lib.hid hcl
    have Hk := Lib.hid hk
    have d0 : decide (0 < n) = true := by simp; omega
    have d1 : decide (0 < s.length) = true := by simp; omega
    have hn1 : n - 1 = k := by omega
    have hs1 : s.length - 1 = q := by omega
    have hkn : k < n := by omega
    have hqb : q < (⟨s.toArray⟩ : ByteArray).size := by rw [size_mk]; exact hqs
    have hxb : (⟨s.toArray⟩ : ByteArray)[q]'hqb = x := by rw [← hx]; rfl
    clear hs hcl hk hsm hne hshort hlen hq hfe
    by_cases hx10 : x = 10
    · rw [if_pos (by rw [hx10]; rfl)] at Hcl
      have hx11 : ((((⟨s.toArray⟩ : ByteArray)[q]'hqb).toNat : Int) != 10) = false := by rw [hxb, hx10]; rfl
      clear hxb hx hx10
      go_enter Tryd.func48, Tryd.ntmps48
      go_wp2_with (at_builtin; refine wpList_append_sl _ rfl (.tmp 5) (.tmp 6) _ rfl w 9 i0 _ 1 16 Tryd.underlying22 hi0 hz0 hz1 hz2 rfl Nat.one_pos none 0 0 [] rfl (Ow.nil_ (Below.refl _ _)) A n _ (strs l) rfl HA.out (one_strs _) q1 q2 ?_; intro A3 c3 w3 hO3 hg3 hat3; rw [Nat.zero_add, List.nil_append] at hO3; obtain ⟨g, rfl, _, zg⟩ := hO3.form h0; have hcell : w3.cell? ⟨g, k, none⟩ = some (S s) := (by rw [hO3.1.cellAt k (by omega)]; simp only [strs, List.getElem?_map, Hs.out, Option.map_some]); have hfr := hO3.1.frozenAt k; have HO := Lib.hid hO3; clear hO3 hg3 hat3)
      go_ret
      exact ⟨_, c3, rfl, by rw [Hcl.out]; exact HO.out⟩
    · rw [if_neg (by simpa using hx10)] at Hcl
      have hx11 : ((((⟨s.toArray⟩ : ByteArray)[q]'hqb).toNat : Int) != 10) = true := by
        rw [hxb]
        simp only [bne_iff_ne, ne_eq]
        intro e
        exact hx10 (UInt8.toNat_inj.1 (by show x.toNat = 10; omega))
      clear hxb hx hx10
      go_enter Tryd.func48, Tryd.ntmps48
      go_wp2_with (at_builtin; refine wpList_append_sl _ rfl (.tmp 5) (.tmp 6) _ rfl w 9 i0 _ 1 16 Tryd.underlying22 hi0 hz0 hz1 hz2 rfl Nat.one_pos none 0 0 [] rfl (Ow.nil_ (Below.refl _ _)) A n _ (strs l) rfl HA.out (one_strs _) q1 q2 ?_; intro A3 c3 w3 hO3 hg3 hat3; rw [Nat.zero_add, List.nil_append] at hO3; obtain ⟨g, rfl, _, zg⟩ := hO3.form h0; have hcell : w3.cell? ⟨g, k, none⟩ = some (S s) := (by rw [hO3.1.cellAt k (by omega)]; simp only [strs, List.getElem?_map, Hs.out, Option.map_some]); have hfr := hO3.1.frozenAt k; have HO := Lib.hid hO3; clear hO3 hg3 hat3)
      go_ret
      refine ⟨_, c3, rfl, ?_⟩
      rw [Hcl.out]
      have e : strs (l.set k (s ++ [10])) = (strs l).set k (S (s ++ [10])) := by simp [strs, List.map_set]
      rw [e]
      exact HO.out.set_ k (S (s ++ [10]))

/-- lines that join to the same are the same -/
theorem wl_join {a b : List (List UInt8)} (ha : BlendLaw.WL a) (hb : BlendLaw.WL b) (h : a.flatten = b.flatten) : a = b := by rw [← ha.lined, ← hb.lined, h]
set_option maxHeartbeats 1000000 in
theorem refSame17_any (A A' : Option Addr) (n n' c c' : Nat) (a b : List (List UInt8)) (v : Bool) (w : World) (hA : Sl w 1 A n (strs a)) (hA' : Sl w 1 A' n' (strs b)) (hn : n ≤ 100000) (hn' : n' ≤ 100000) (ha : a.flatten.length ≤ 1000000) (hb : b.flatten.length ≤ 1000000) (wa : BlendLaw.WL a) (wb : BlendLaw.WL b) (hv : decide (a = b) = v) :
    Calls Tryd.prog 47 #[.slice A n c, .slice A' n' c'] w fun e w' => e = .returned (.bool v) ∧ Below w.heap.size w w' := by
  have la := strs_len hA
  have lb := strs_len hA'
  have HA := Lib.hid hA
  have HA' := Lib.hid hA'
  clear hA hA'
  by_cases hne : n = n'
  · have hb1 : ((n : Int) == (n' : Int)) = true := by simp; omega
    obtain ⟨x, hx⟩ : ∃ x, a.flatten = x := ⟨_, rfl⟩
    obtain ⟨y, hy⟩ : ∃ y, b.flatten = y := ⟨_, rfl⟩
    rw [hx] at ha
    rw [hy] at hb
    have hxy : (x == y) = v := by
      rw [← hv]
      by_cases e : a = b
      · subst e
        rw [hx] at hy
        simp [hy]
      · have e2 : x ≠ y := fun h => e (wl_join wa wb (by rw [hx, hy, h]))
        simp [e, e2]
    have Hx := Lib.hid hx
    have Hy := Lib.hid hy
    have Hxy := Lib.hid hxy
    clear hx hy hxy hv wa wb la lb hne
    go_enter Tryd.func47, Tryd.ntmps47
    go_wp2
    have bz : Below w.heap.size w w := Below.refl _ _
    go_region_law (first
      | (go_simp; go_at_call_of 26 (Value.slice A n c); refine (refJoin_any A n c a x _ (HA.out.below bz.drew) Hx.out (by omega) (by omega)).mono ?_; rintro e3 w3 ⟨A3, c3, rfl, hO3⟩; have q3 : Below w.heap.size w w3 := bstep bz.drew hO3.2; have conv3 := conv_any (c := c3) hO3.sl; have z3 : Below w3.heap.size w3 w3 := Below.refl _ _)
      | (go_simp; go_at_call_of 26 (Value.slice A' n' c'); refine (refJoin_any A' n' c' b y _ (HA'.out.below q3) Hy.out (by omega) (by omega)).mono ?_; rintro e4 w4 ⟨A4, c4, rfl, hO4⟩; have q4 : Below w.heap.size w w4 := bstep q3 hO4.2; have z4 : Below w3.heap.size w3 w4 := hO4.2; have conv4 := conv_any (c := c4) hO4.sl; have z44 : Below w4.heap.size w4 w4 := Below.refl _ _))
    all_goals
      go_wp2
      go_ret
      exact ⟨by rw [← Hxy.out]; rfl, q4⟩
  · have hb1 : ((n : Int) == (n' : Int)) = false := by simp; omega
    have hab : a ≠ b := fun e => hne (by rw [← la, ← lb, e])
    obtain rfl : v = false := by rw [← hv]; exact decide_eq_false hab
    clear hab hv la lb wa wb hne
    go_enter Tryd.func47, Tryd.ntmps47
    go_wp2
    go_quiet (fail)
    go_wp2
    go_ret
    exact ⟨rfl, below_drewN (Below.refl _ _) _⟩
end Go.Proofs.YtpnogcblafmaiaaDoor

/-
  plan.Next, the law's own small functions (mine, id). Conditions: the plan's steps read as a list.
-/
import Derived.Test.YtgcbolijdgecgaaPlanCheck
namespace Go.Proofs.Ytgcbolijdgecgaa
open Go.RowKit Go.Shelf

theorem bcell {W w1 : World} (lo : Nat) (hb : Below W.heap.size W w1) : (∀ b o, lo ≤ b → b < W.heap.size → w1.cell? ⟨b, o, none⟩ = W.cell? ⟨b, o, none⟩) ∧ (∀ b o, lo ≤ b → b < W.heap.size → w1.frozen? ⟨b, o, none⟩ = W.frozen? ⟨b, o, none⟩) :=
  ⟨fun b o _ h => hb.cell (p := ⟨b, o, none⟩) h, fun b o _ h => hb.frozen (p := ⟨b, o, none⟩) h⟩

abbrev zeroPl : Value := .agg #[I 0, .slice none 0 0, I 0, S [], S [], I 0]

theorem check_ok (kind : Int) (A : Option Addr) (n c : Nat) (at_ : Int) (orig who : List UInt8) (stamp : Int) (ss : List (List UInt8)) (w : World) (hA : Sl w 1 A n (strs ss)) (h : PlanOk ⟨kind, ss, at_, orig, who, stamp⟩) :
    Calls Try.prog 7 #[plV kind A n c at_ orig who stamp] w fun e w' => e = .returned (I 0) ∧ Below w.heap.size w w' := by
  have := check_any kind A n c at_ orig who stamp ss w hA; rwa [if_pos h] at this
theorem check_no (kind : Int) (A : Option Addr) (n c : Nat) (at_ : Int) (orig who : List UInt8) (stamp : Int) (ss : List (List UInt8)) (w : World) (hA : Sl w 1 A n (strs ss)) (h : ¬ PlanOk ⟨kind, ss, at_, orig, who, stamp⟩) :
    Calls Try.prog 7 #[plV kind A n c at_ orig who stamp] w fun e w' => e = .returned (I 1) ∧ Below w.heap.size w w' := by
  have := check_any kind A n c at_ orig who stamp ss w hA; rwa [if_neg h] at this

set_option maxHeartbeats 1000000 in
set_option maxRecDepth 100000 in
theorem next_no (kind : Int) (A : Option Addr) (n c : Nat) (at_ : Int) (orig who : List UInt8) (stamp : Int) (ss : List (List UInt8)) (w : World) (hA : Sl w 1 A n (strs ss)) (h : ¬ PlanOk ⟨kind, ss, at_, orig, who, stamp⟩) :
    Calls Try.prog 8 #[plV kind A n c at_ orig who stamp] w fun e w' => e = .returned (.tuple #[S [], zeroPl, .bool false]) ∧ Below w.heap.size w w' := by
  have HA := Lib.hid hA
  clear hA
  go_enter Try.func8, Try.ntmps8
  go_wp2_with fail
  refine (check_no kind A n c at_ orig who stamp ss _ ((HA.out.alloc _).alloc _) h).mono ?_
  rintro e w1 ⟨rfl, hb⟩
  obtain ⟨hc, hf⟩ := bcell w.heap.size hb
  have hb' := Lib.hid ((((Below.refl _ w).alloc (Nat.le_refl _) _).alloc (by simp) _).trans (hb.mono (by simp; omega)))
  have hz : w.heap.size + 1 < w1.heap.size := by have := hb.size; simp at this; omega
  clear hb
  go_wp2
  refine bodyPost_ret (v := .tuple #[S [], zeroPl, .bool false]) (by simp [results, Try.results8, go_sem, hc]) rfl ⟨rfl, ?_⟩
  repeat refine Below.setCell ?_ (by simp) _
  exact hb'.out

set_option maxHeartbeats 1000000 in
set_option maxRecDepth 100000 in
theorem next_last (kind : Int) (A : Option Addr) (n c k : Nat) (orig who : List UInt8) (stamp : Int) (ss : List (List UInt8)) (s : List UInt8) (w : World) (hA : Sl w 1 A n (strs ss)) (h : PlanOk ⟨kind, ss, k, orig, who, stamp⟩) (hk : k + 1 = n) (hs : ss[k]? = some s) :
    Calls Try.prog 8 #[plV kind A n c k orig who stamp] w fun e w' => e = .returned (.tuple #[S s, zeroPl, .bool false]) ∧ Below w.heap.size w w' := by
  have HA := Lib.hid hA
  have hn : n ≤ 4096 := by have := h.1.2.1; rw [strs_len hA] at this; exact this
  obtain ⟨b, off, s', rfl, hs', hc0⟩ := hA.str (k := k) (by omega)
  obtain rfl : s' = s := Option.some.inj (hs'.symm.trans hs)
  have hblt : b < w.heap.size := by
    obtain ⟨b', off', e, hb, _⟩ := hA.2 (by omega)
    cases e; exact hb
  have Hk := Lib.hid hk
  have hk1 : ((k : Int) + 1 == (n : Int)) = true := by simp; omega
  have hlt : k < n := by omega
  clear hA hk hs hs'
  go_enter Try.func8, Try.ntmps8
  go_wp2_with fail
  refine (check_ok kind _ n c k orig who stamp ss _ ((HA.out.alloc _).alloc _) h).mono ?_
  rintro e w1 ⟨rfl, hb⟩
  have hB0 := ((Blk.new w 26 _).alloc _).below hb (by simp; omega)
  have hB1 := (Blk.new (w.alloc (Obj.cells #[I kind, Value.slice (some ⟨b, off, none⟩) n c, I k, S orig, S who, I stamp] 26)) 26 _).below hb (by simp)
  rw [World.size_alloc] at hB1
  have hb' := Lib.hid ((((Below.refl _ w).alloc (Nat.le_refl _) _).alloc (by simp) _).trans (hb.mono (by simp; omega)))
  have hz : w.heap.size + 1 < w1.heap.size := by have := hb.size; simp at this; omega
  have hc1 : w1.cell? ⟨b, off + k, none⟩ = some (S s') := (hb'.out.cell (p := ⟨b, off + k, none⟩) hblt).trans hc0
  have HB0 := Lib.hid hB0
  have HB1 := Lib.hid hB1
  have r0 := hB0.cell
  have r1 := hB0.frozen
  clear hb hB0 hB1
  go_wp2_with fail
  refine (cloneS_any _ n c ss _ (HA.out.below (hb'.out.setCell (by simp) _)) (by omega)).mono ?_
  rintro e w2 ⟨A2, c2, rfl, hO2⟩
  have hb2 := below_set hO2.2
  have HO2 := Lib.hid hO2.1
  clear hO2
  have hB0 := (HB0.out.set_ 2 (I (↑k + 1))).below hb2 (by omega)
  have hB1 := (HB1.out.far (p := ⟨w.heap.size, 2, none⟩) (by simp) (I (↑k + 1))).below hb2 (by omega)
  have hb2' := Lib.hid ((hb'.out.setCell (p := ⟨w.heap.size, 2, none⟩) (by simp) (I (↑k + 1))).trans (hb2.mono (by omega)))
  have hz2 : w1.heap.size ≤ w2.heap.size := by have := hb2.size; rw [setCell_size] at this; exact this
  have s0 := hB0.cell
  have s1 := hB0.frozen
  have s2 := hB1.cell
  have s3 := hB1.frozen
  clear hb2 hc1 hc0 r0 r1 hB0 hB1
  go_wp2
  refine bodyPost_ret (v := .tuple #[S s', zeroPl, .bool false]) (by simp [results, Try.results8, go_sem, s2]) rfl ⟨rfl, ?_⟩
  repeat refine Below.setCell ?_ (by simp) _
  exact hb2'.out

set_option maxHeartbeats 1000000 in
set_option maxRecDepth 100000 in
theorem next_more (kind : Int) (A : Option Addr) (n c k : Nat) (orig who : List UInt8) (stamp : Int) (ss : List (List UInt8)) (s : List UInt8) (w : World) (hA : Sl w 1 A n (strs ss)) (h : PlanOk ⟨kind, ss, k, orig, who, stamp⟩) (hk : k + 1 < n) (hs : ss[k]? = some s) :
    Calls Try.prog 8 #[plV kind A n c k orig who stamp] w fun e w' => ∃ A' c', e = .returned (.tuple #[S s, plV kind A' n c' (k + 1 : Nat) orig who stamp, .bool true]) ∧ Ow w w' 9 1 A' n c' (strs ss) := by
  have HA := Lib.hid hA
  have hn : n ≤ 4096 := by have := h.1.2.1; rw [strs_len hA] at this; exact this
  obtain ⟨b, off, s', rfl, hs', hc0⟩ := hA.str (k := k) (by omega)
  obtain rfl : s' = s := Option.some.inj (hs'.symm.trans hs)
  have hblt : b < w.heap.size := by
    obtain ⟨b', off', e, hb, _⟩ := hA.2 (by omega)
    cases e; exact hb
  have Hk := Lib.hid hk
  have hk1 : ((k : Int) + 1 == (n : Int)) = false := by simp; omega
  have hlt : k < n := by omega
  clear hA hk hs hs'
  go_enter Try.func8, Try.ntmps8
  go_wp2_with fail
  refine (check_ok kind _ n c k orig who stamp ss _ ((HA.out.alloc _).alloc _) h).mono ?_
  rintro e w1 ⟨rfl, hb⟩
  have hB0 := ((Blk.new w 26 _).alloc _).below hb (by simp; omega)
  have hB1 := (Blk.new (w.alloc (Obj.cells #[I kind, Value.slice (some ⟨b, off, none⟩) n c, I k, S orig, S who, I stamp] 26)) 26 _).below hb (by simp)
  rw [World.size_alloc] at hB1
  have hb' := Lib.hid ((((Below.refl _ w).alloc (Nat.le_refl _) _).alloc (by simp) _).trans (hb.mono (by simp; omega)))
  have hz : w.heap.size + 1 < w1.heap.size := by have := hb.size; simp at this; omega
  have hc1 : w1.cell? ⟨b, off + k, none⟩ = some (S s') := (hb'.out.cell (p := ⟨b, off + k, none⟩) hblt).trans hc0
  have HB0 := Lib.hid hB0
  have HB1 := Lib.hid hB1
  have r0 := hB0.cell
  have r1 := hB0.frozen
  clear hb hB0 hB1
  go_wp2_with fail
  refine (cloneS_any _ n c ss _ (HA.out.below (hb'.out.setCell (by simp) _)) (by omega)).mono ?_
  rintro e w2 ⟨A2, c2, rfl, hO2⟩
  have hb2 := below_set hO2.2
  have HO2 := Lib.hid hO2.1
  clear hO2
  have hB0 := (HB0.out.set_ 2 (I (↑k + 1))).below hb2 (by omega)
  have hB1 := (HB1.out.far (p := ⟨w.heap.size, 2, none⟩) (by simp) (I (↑k + 1))).below hb2 (by omega)
  have hb2' := Lib.hid ((hb'.out.setCell (p := ⟨w.heap.size, 2, none⟩) (by simp) (I (↑k + 1))).trans (hb2.mono (by omega)))
  have hz2 : w1.heap.size ≤ w2.heap.size := by have := hb2.size; rw [setCell_size] at this; exact this
  have s0 := hB0.cell
  have s1 := hB0.frozen
  have s2 := hB1.cell
  have s3 := hB1.frozen
  clear hb2 hc1 hc0 r0 r1 hB0 hB1
  go_wp2
  go_region
  go_wp2
  refine bodyPost_ret (v := .tuple #[S s', plV kind A2 n c2 (k + 1 : Nat) orig who stamp, .bool true]) (by simp [results, Try.results8, go_sem, s2]) rfl ⟨A2, c2, rfl, ?_, ?_⟩
  · rw [setCell_size] at HO2
    refine own_mono (base := w1.heap.size) ?_ (by omega)
    repeat (first | with_reducible refine World.ownsRow.drew ?_ | with_reducible refine ownsRow_setCell_below ?_ (by simp; omega) _)
    exact HO2.out
  · repeat (first | with_reducible refine Below.drew ?_ | with_reducible refine Below.setCell ?_ (by simp) _)
    exact hb2'.out
end Go.Proofs.Ytgcbolijdgecgaa

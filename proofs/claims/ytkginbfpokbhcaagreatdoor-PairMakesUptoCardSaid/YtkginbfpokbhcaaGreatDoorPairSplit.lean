/-
  pair.split, whatever is asked. Conditions: the list can be read; the closure tells a bool of each change and turns nothing.
-/
import Derived.Test.YtkginbfpokbhcaaGreatDoorIndexFn
import Derived.Test.YtkginbfpokbhcaaGreatDoorKitW
import Derived.BigQuiet
namespace Go.Proofs.YtkginbfpokbhcaaGreatDoor
open Go.RowKit

/-- two rows of the call's own that are not one -/
def Ap (u v : Value) : Prop := u.ownBlock = none ∨ v.ownBlock = none ∨ u.ownBlock ≠ v.ownBlock
theorem Ap.keeps {u v : Value} (h : Ap u v) : v.ownBlock = none ∨ v.ownBlock ≠ u.ownBlock := by
  rcases h with h | h | h
  · rcases e : v.ownBlock with _ | k
    · exact .inl rfl
    · exact .inr (by rw [h]; simp)
  · exact .inl h
  · exact .inr (fun e => h e.symm)
theorem Ap.symm {u v : Value} (h : Ap u v) : Ap v u := by
  rcases h with h | h | h
  · exact .inr (.inl h)
  · exact .inl h
  · exact .inr (.inr (fun e => h e.symm))
/-- an append keeps them apart -/
theorem Ap.grown {u u' v : Value} {w : World} {base sz n : Nat} {e : TypeId} {xs : List Value} (h : Ap u v) (hv : w.ownsRow base e sz v n xs) (hu : u'.ownBlock = u.ownBlock ∨ u'.ownBlock = some w.heap.size) : Ap u' v := by
  rcases hu with hu | hu
  · unfold Ap at h ⊢
    rw [hu]
    exact h
  · rcases e : v.ownBlock with _ | k
    · exact .inr (.inl e)
    · refine .inr (.inr ?_)
      rw [hu, e]
      have := (hv.lt k e).2
      intro h2
      have h3 := Option.some.inj h2
      omega
set_option maxHeartbeats 4000000 in
set_option maxRecDepth 100000 in
theorem psplit_any (g : FuncId) (lb : Array Value) (eg : ∀ args w, (callFunc g args).run Tryz.prog w = .ok (.enter g args) w) (f : Chg3 → Bool) (A : Option Addr) (n c : Nat) (l : List Chg3) (w : World) (hA : Sl w 3 A n (cgs l)) (hn : n ≤ 1000000)
    (hF : ∀ x ∈ l, ∀ W, Below w.heap.size w W → Calls Tryz.prog g (#[.agg #[S x.1, S x.2.1, S x.2.2]] ++ lb) W fun e w' => e = .returned (.bool (f x)) ∧ Below W.heap.size W w') :
    Calls Tryz.prog 67 #[.slice A n c, .func (.func g) #[] lb] w fun e w' => ∃ A1 n1 c1 A2 n2 c2, e = .returned (.tuple #[.slice A1 n1 c1, .slice A2 n2 c2]) ∧ n1 = (l.filter f).length ∧ n2 = (l.filter (fun x => !f x)).length ∧
      Ow w w' 73 3 A1 n1 c1 (cgs (l.filter f)) ∧ Ow w w' 73 3 A2 n2 c2 (cgs (l.filter (fun x => !f x))) ∧ Ap (.slice A1 n1 c1) (.slice A2 n2 c2) := by
  obtain ⟨i0, hi0, hz0, hz1, hz2⟩ := info_parts Tryz.infoChg
  have hlen := Lib.hid (cgs_count hA)
  have HA := Lib.hid hA
  have HF := Lib.hid hF
  clear hA hF
  go_enter Tryz.func67, Tryz.ntmps67
  go_wp2
  go_loopw [4, 5, 10] (fun s4 s5 s10 wr => ∃ (k n1 c1 n2 c2 : Nat) (A1 A2 : Option Addr), k ≤ n ∧ s10 = .int .i64 k ∧ s4 = .slice A1 n1 c1 ∧ s5 = .slice A2 n2 c2 ∧ Hid (n1 = ((l.take k).filter f).length) ∧ Hid (n2 = ((l.take k).filter (fun x => !f x)).length) ∧
      Hid (Ow w wr 73 3 A1 n1 c1 (cgs ((l.take k).filter f))) ∧ Hid (Ow w wr 73 3 A2 n2 c2 (cgs ((l.take k).filter (fun x => !f x)))) ∧ Hid (Ap (.slice A1 n1 c1) (.slice A2 n2 c2))) (fun _ _ s10 _ => n - (intOf s10).toNat)
  case atStart => exact ⟨0, 0, 0, 0, 0, none, none, Nat.zero_le _, rfl, rfl, rfl, Lib.hid (by simp), Lib.hid (by simp), Lib.hid (by simp only [List.take_zero, List.filter_nil]; exact Ow.nil_ (Below.refl _ _)), Lib.hid (by simp only [List.take_zero, List.filter_nil]; exact Ow.nil_ (Below.refl _ _)), Lib.hid (.inl (by simp [Value.ownBlock]))⟩
  case round =>
    obtain ⟨k, n1, c1, n2, c2, A1, A2, hk, rfl, rfl, rfl, H1, H2, HO1, HO2, HP⟩ := hrel
    by_cases hlt : k < n
    · obtain ⟨b, off, x, rfl, _, hx, x0, x1, x2⟩ := (HA.out.below HO1.out.2).cg hlt
      have Hx := Lib.hid hx
      have hb1 := balloc HO1.out.2 (.cells #[S x.1, S x.2.1, S x.2.2] 73)
      have C := Lib.hid (HF.out x (List.mem_of_getElem? hx) _ hb1)
      have hbd1 : n1 ≤ 1000000 := by have := H1.out; have := List.length_filter_le f (l.take k); rw [List.length_take] at this; omega
      have hbd2 : n2 ≤ 1000000 := by have := H2.out; have := List.length_filter_le (fun x => !f x) (l.take k); rw [List.length_take] at this; omega
      have hB := Blk.new wr 73 #[S x.1, S x.2.1, S x.2.2]
      have HB := Lib.hid hB
      have HO1' := Lib.hid (HO1.out.alloc (.cells #[S x.1, S x.2.1, S x.2.2] 73))
      have HO2' := Lib.hid (HO2.out.alloc (.cells #[S x.1, S x.2.1, S x.2.2] 73))
      clear hx hb1 hB
      rcases hd : f x with _ | _
      · rw [hd] at C
        have HE1 : Hid ((l.take (k + 1)).filter f = (l.take k).filter f) := Lib.hid (by rw [List.take_add_one, Hx.out, List.filter_append]; simp [hd])
        have HE2 : Hid ((l.take (k + 1)).filter (fun x => !f x) = (l.take k).filter (fun x => !f x) ++ [x]) := Lib.hid (by rw [List.take_add_one, Hx.out, List.filter_append]; simp [hd])
        have q1 := Lib.hid (show n2 + 1 ≤ maxLen by simp only [maxLen]; omega)
        have q2 := Lib.hid (show (n2 + 1) * 48 ≤ 140737488355328 by omega)
        clear hd
        go_wp2_with fail
        refine C.out.mono ?_
        rintro e w2 ⟨rfl, b2⟩
        have r2 := (HB.out.step b2).cell
        have HS6 := Lib.hid (sl_cg w2 73 x)
        have HO2'' := Lib.hid ((HO2'.out.keep b2).alloc (.cells #[S x.1, S x.2.1, S x.2.2] 73))
        have HO1'' := Lib.hid ((HO1'.out.keep b2).alloc (.cells #[S x.1, S x.2.1, S x.2.2] 73))
        go_wp2_with (at_builtin; refine wpList_append_sl _ rfl (.tmp 21) (.tmp 23) _ rfl w 73 i0 _ 3 48 Tryz.underlying63 hi0 hz0 hz1 hz2 rfl (by decide) A2 n2 c2 _ rfl HO2''.out _ 1 1 (cgs [x]) rfl HS6.out (one_cgs _) q1.out q2.out ?_; intro A5 c5 w5 hO5 hg5 hat5; have HO5 := Lib.hid hO5; have HO9 := Lib.hid (HO1''.out.grown hg5 HP.out.symm.keeps (fun k hk => (HO2''.out.1.lt k hk).1)); have HP5 := Lib.hid (HP.out.symm.grown HO1''.out.1 hat5).symm; clear hO5 hg5 hat5)
        go_roundw
        case rel => exact ⟨k + 1, n1, c1, n2 + 1, c5, A1, A5, hlt, by go_num, rfl, rfl, Lib.hid (by rw [HE1.out]; exact H1.out), Lib.hid (by rw [HE2.out, List.length_append, ← H2.out]; rfl), Lib.hid (by rw [HE1.out]; exact HO9.out), Lib.hid (by rw [HE2.out, cgs_append]; exact HO5.out), HP5⟩
        case measure => simp [intOf]; omega
      · rw [hd] at C
        have HE1 : Hid ((l.take (k + 1)).filter f = (l.take k).filter f ++ [x]) := Lib.hid (by rw [List.take_add_one, Hx.out, List.filter_append]; simp [hd])
        have HE2 : Hid ((l.take (k + 1)).filter (fun x => !f x) = (l.take k).filter (fun x => !f x)) := Lib.hid (by rw [List.take_add_one, Hx.out, List.filter_append]; simp [hd])
        have q1 := Lib.hid (show n1 + 1 ≤ maxLen by simp only [maxLen]; omega)
        have q2 := Lib.hid (show (n1 + 1) * 48 ≤ 140737488355328 by omega)
        clear hd
        go_wp2_with fail
        refine C.out.mono ?_
        rintro e w2 ⟨rfl, b2⟩
        have r2 := (HB.out.step b2).cell
        have HS6 := Lib.hid (sl_cg w2 73 x)
        have HO2'' := Lib.hid ((HO2'.out.keep b2).alloc (.cells #[S x.1, S x.2.1, S x.2.2] 73))
        have HO1'' := Lib.hid ((HO1'.out.keep b2).alloc (.cells #[S x.1, S x.2.1, S x.2.2] 73))
        go_wp2_with (at_builtin; refine wpList_append_sl _ rfl (.tmp 17) (.tmp 19) _ rfl w 73 i0 _ 3 48 Tryz.underlying63 hi0 hz0 hz1 hz2 rfl (by decide) A1 n1 c1 _ rfl HO1''.out _ 1 1 (cgs [x]) rfl HS6.out (one_cgs _) q1.out q2.out ?_; intro A5 c5 w5 hO5 hg5 hat5; have HO5 := Lib.hid hO5; have HO9 := Lib.hid (HO2''.out.grown hg5 HP.out.keeps (fun k hk => (HO1''.out.1.lt k hk).1)); have HP5 := Lib.hid (HP.out.grown HO2''.out.1 hat5); clear hO5 hg5 hat5)
        go_roundw
        case rel => exact ⟨k + 1, n1 + 1, c5, n2, c2, A5, A2, hlt, by go_num, rfl, rfl, Lib.hid (by rw [HE1.out, List.length_append, ← H1.out]; rfl), Lib.hid (by rw [HE2.out]; exact H2.out), Lib.hid (by rw [HE1.out, cgs_append]; exact HO5.out), Lib.hid (by rw [HE2.out]; exact HO9.out), HP5⟩
        case measure => simp [intOf]; omega
    · obtain rfl : k = n := by omega
      rw [List.take_of_length_le (by rw [hlen.out]; exact Nat.le_refl _)] at H1 H2 HO1 HO2
      go_wp2
      go_ret2
      exact ⟨A1, n1, c1, A2, n2, c2, rfl, H1.out, H2.out, HO1.out, HO2.out, HP.out⟩
end Go.Proofs.YtkginbfpokbhcaaGreatDoor

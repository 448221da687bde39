/-
  dolmenlaw14.files; the document's Files; dolmenref13.Same at one list twice. Condition: no more than 1000000.
-/
import Derived.Test.YtjcelelgebohkaaGreatDoorIdxTheirs
import Derived.Test.YtjcelelgebohkaaGreatDoorIdxLists
namespace Go.Proofs.YtjcelelgebohkaaGreatDoor
open Go.RowKit
open IdxLaw (Ent)

theorem Tryz.infoRFil : (Tryz.prog.info? 110).map (fun i => (i.zero, i.size, i.bytes)) = some (some (.agg #[.string ⟨#[]⟩, .string ⟨#[]⟩]), 2, 32) := by kernel_rfl
def lfiPhi (b off n c k co g c5 : Nat) (Ao A5 : Option Addr) (xp xi : List UInt8) : Nat → Value → World → Prop
  | 0, v, _ => v = .slice Ao k co
  | 1, v, _ => v = .slice (some ⟨b, off, none⟩) n c
  | 2, v, _ => v = I ((k : Int))
  | 3, v, _ => v = .pointer (some ⟨b, off + k * 2, none⟩)
  | 4, v, _ => v = .pointer (some ⟨b, off + k * 2, none⟩)
  | 5, v, _ => v = S xp
  | 6, v, _ => v = .slice (some ⟨b, off, none⟩) n c
  | 7, v, _ => v = I ((k : Int))
  | 8, v, _ => v = .pointer (some ⟨b, off + k * 2, none⟩)
  | 9, v, _ => v = .pointer (some ⟨b, off + k * 2 + 1, none⟩)
  | 10, v, _ => v = S xi
  | 11, v, _ => v = .agg #[S xp, S xi]
  | 12, v, _ => v = .slice (some ⟨g, 0, none⟩) 1 1
  | 13, v, _ => v = .slice A5 (k + 1) c5
  | _, _, _ => True
def rfiPhi (b off n c k co t q g c5 : Nat) (Ao A5 : Option Addr) (xp xi : List UInt8) : Nat → Value → World → Prop
  | 0, v, _ => v = .slice Ao t co
  | 1, v, _ => v = .pointer (some ⟨q, 0, none⟩)
  | 2, v, _ => v = .pointer (some ⟨q, 0, none⟩)
  | 3, v, _ => v = .pointer (some ⟨q, 0, none⟩)
  | 4, v, _ => v = .slice (some ⟨b, off, none⟩) n c
  | 5, v, _ => v = I ((k : Int))
  | 6, v, _ => v = .pointer (some ⟨b, off + k * 5, none⟩)
  | 7, v, _ => v = .pointer (some ⟨b, off + k * 5, none⟩)
  | 8, v, _ => v = S xp
  | 9, v, _ => v = .pointer (some ⟨q, 0, none⟩)
  | 10, v, _ => v = .pointer (some ⟨q, 0, none⟩)
  | 11, v, _ => v = .pointer (some ⟨q, 0, none⟩)
  | 12, v, _ => v = .slice (some ⟨b, off, none⟩) n c
  | 13, v, _ => v = I ((k : Int))
  | 14, v, _ => v = .pointer (some ⟨b, off + k * 5, none⟩)
  | 15, v, _ => v = .pointer (some ⟨b, off + k * 5 + 2, none⟩)
  | 16, v, _ => v = S xi
  | 17, v, _ => v = .agg #[S xp, S xi]
  | 18, v, _ => v = .slice (some ⟨g, 0, none⟩) 1 1
  | 19, v, _ => v = .slice A5 (t + 1) c5
  | _, _, _ => True
set_option maxRecDepth 100000 in
set_option maxHeartbeats 8000000 in
theorem lawFiles_any (w : World) (A : Option Addr) (n c : Nat) (l : List Fil) (hA : Sl w 2 A n (fls l)) (hn : n ≤ 1000000) :
    Calls Tryz.prog 32 #[.slice A n c] w fun e w' => ∃ (A' : Option Addr) (c' : Nat), e = .returned (.slice A' n c') ∧ Ow w w' 110 2 A' n c' (fls l) := by
  obtain ⟨i0, hi0, hi1, hi2, hi3⟩ := info_parts Tryz.infoRFil
  have HA := Lib.hid hA
  have hl := fls_count hA
  clear hA
  go_enter Tryz.func32, Tryz.ntmps32
  go_wp2
  go_loopw [3, 4] (fun o i wr => ∃ (k co : Nat) (Ao : Option Addr), i = .int .i64 k ∧ o = .slice Ao k co ∧ Hid (k ≤ n) ∧ Hid (Ow w wr 110 2 Ao k co (fls (l.take k)))) (fun _ i _ => n - (intOf i).toNat)
  case atStart => exact ⟨0, 0, none, rfl, rfl, Lib.hid (Nat.zero_le _), Lib.hid (Ow.nil_ (Below.refl _ _))⟩
  case round =>
    obtain ⟨k, co, Ao, rfl, rfl, hk, hO⟩ := hrel
    by_cases hlt : k < n
    · obtain ⟨b, off, x, rfl, _, hx, x0, x1⟩ := (HA.out.below hO.out.2).fil hlt
      have Hx := Lib.hid hx
      clear hx
      obtain ⟨xp, xi⟩ := x
      have q1 : Hid (k + 1 ≤ maxLen) := Lib.hid (by simp only [maxLen]; omega)
      have q2 : Hid ((k + 1) * 32 ≤ 140737488355328) := Lib.hid (by omega)
      obtain ⟨W, hW⟩ : ∃ W, W = wr := ⟨_, rfl⟩
      subst hW
      have HO6 := Lib.hid (hO.out.drew.alloc (.cells #[S xp, S xi] 110))
      have hS6 := sl_fil W.drew 110 (xp, xi)
      obtain ⟨A5, c5, w5, hrun, hO5, hg5, _⟩ := run_append_sl (P := Tryz.prog) _ w.heap.size 71 71 110 i0 _ 2 32 Tryz.underlying71 hi0 hi1 hi2 hi3 rfl (by decide) (.slice Ao k co) k (fls (l.take k)) HO6.out.1 _ 1 1 (fls [(xp, xi)]) hS6 (one_fls _) q1.out q2.out HO6.out.2.size
      have hb5 : Below w.heap.size w w5 := HO6.out.2.grown hg5 HO6.out.2.size (fun k hk => (HO6.out.1.lt k hk).1)
      have HO5 : Hid (Ow w w5 110 2 A5 (k + 1) c5 (fls (l.take (k + 1)))) := Lib.hid ⟨by rw [List.take_add_one, Hx.out, fls_append]; exact hO5, hb5⟩
      have HB := Lib.hid (TJ.bel (w0 := w) (W0 := W.drew) (W1 := W.drew.alloc (.cells #[S xp, S xi] 110)) (W2 := w5) hO.out.2.drew HO6.out.2 hb5)
      have Hrun := Lib.hid hrun
      have Hx2 : Hid (∀ w', Below w.heap.size w w' → w'.cell? ⟨b, off + k * 2, none⟩ = some (S xp) ∧ w'.cell? ⟨b, off + k * 2 + 1, none⟩ = some (S xi)) := Lib.hid (fun w' hb' => by
        obtain ⟨b2, off2, y, e1, _, hy, z0, z1⟩ := (HA.out.below hb').fil hlt
        cases e1
        obtain rfl : y = (xp, xi) := Option.some.inj (hy.symm.trans Hx.out)
        exact ⟨z0, z1⟩)
      clear x0 x1
      clear hS6 hrun hO5 hg5 hb5 HO6
      obtain ⟨g, hg⟩ : ∃ g, g = W.heap.size := ⟨_, rfl⟩
      have Hg := Lib.hid hg
      clear hg
      go_wp2
      skip
      refine wp_region_pairR (by kernel_rfl) 14 (by kernel_rfl) ?_ (fun j v => lfiPhi b off n c k co g c5 Ao A5 xp xi j v W) 12 13 (by kernel_rfl) (fun w w' => w' = w) (fun _ => rfl) (TJ W.drew (W.drew.alloc (.cells #[S xp, S xi] 110)) w5) TJ.step rfl (fun i o hi hi1 hi2 ho a w hk' hk hk2 hs hm => ?_) (fun o ho a w hj hs hm => ?_) (fun o ho a w hj hs hm => ?_) (fun o ho a w hj hs hm => ?_)
      · exact dst_ltT (n := 26) (by kernel_rfl)
      · obtain ⟨y0, y1⟩ := Hx2.out w (HB.out hk' w hk)
        exact match i, hi, ho, hi1, hi2 with
        | 0, _, ho, _, _ => by
            cases ho
            rw [if_pos (wanted_none _ rfl)]
            refine wp_value (st_move rfl ((hs.keeps (by kernel_rfl)).trans rfl)) ⟨_, rfl, rfl, rfl⟩
        | 1, _, ho, _, _ => by
            cases ho
            rw [if_pos (wanted_none _ rfl)]
            refine wp_value (st_move rfl ((hs.keeps (by kernel_rfl)).trans rfl)) ⟨_, rfl, rfl, rfl⟩
        | 2, _, ho, _, _ => by
            cases ho
            rw [if_pos (wanted_none _ rfl)]
            refine wp_value (st_move rfl ((hs.keeps (by kernel_rfl)).trans rfl)) ⟨_, rfl, rfl, rfl⟩
        | 3, _, ho, _, _ => by
            cases ho
            rw [if_pos (wanted_none _ rfl)]
            have h1 := eval_getD (hm.get 1 12 (by kernel_rfl)); have h2 := eval_getD (hm.get 2 13 (by kernel_rfl)); unfold Oper.wp; simp only [execOp]; go_simp; (first | exact ⟨_, rfl, rfl⟩ | exact ⟨_, rfl, rfl, rfl⟩)
        | 4, _, ho, _, _ => by
            cases ho
            rw [if_pos (wanted_none _ rfl)]
            have h1 := eval_getD (hm.get 3 14 (by kernel_rfl)); unfold Oper.wp; simp only [execOp]; go_simp; (first | exact ⟨_, rfl, rfl⟩ | exact ⟨_, rfl, rfl, rfl⟩)
        | 5, _, ho, _, _ => by
            cases ho
            rw [if_pos (wanted_none _ rfl)]
            have h1 := eval_getD (hm.get 4 15 (by kernel_rfl)); unfold Oper.wp; simp only [execOp]; go_simp; (first | exact ⟨_, rfl, rfl⟩ | exact ⟨_, rfl, rfl, rfl⟩)
        | 6, _, ho, _, _ => by
            cases ho
            rw [if_pos (wanted_none _ rfl)]
            refine wp_value (st_move rfl ((hs.keeps (by kernel_rfl)).trans rfl)) ⟨_, rfl, rfl, rfl⟩
        | 7, _, ho, _, _ => by
            cases ho
            rw [if_pos (wanted_none _ rfl)]
            refine wp_value (st_move rfl ((hs.keeps (by kernel_rfl)).trans rfl)) ⟨_, rfl, rfl, rfl⟩
        | 8, _, ho, _, _ => by
            cases ho
            rw [if_pos (wanted_none _ rfl)]
            have h1 := eval_getD (hm.get 6 17 (by kernel_rfl)); have h2 := eval_getD (hm.get 7 18 (by kernel_rfl)); unfold Oper.wp; simp only [execOp]; go_simp; (first | exact ⟨_, rfl, rfl⟩ | exact ⟨_, rfl, rfl, rfl⟩)
        | 9, _, ho, _, _ => by
            cases ho
            rw [if_pos (wanted_none _ rfl)]
            have h1 := eval_getD (hm.get 8 19 (by kernel_rfl)); unfold Oper.wp; simp only [execOp]; go_simp; (first | exact ⟨_, rfl, rfl⟩ | exact ⟨_, rfl, rfl, rfl⟩)
        | 10, _, ho, _, _ => by
            cases ho
            rw [if_pos (wanted_none _ rfl)]
            have h1 := eval_getD (hm.get 9 20 (by kernel_rfl)); unfold Oper.wp; simp only [execOp]; go_simp; (first | exact ⟨_, rfl, rfl⟩ | exact ⟨_, rfl, rfl, rfl⟩)
        | 11, _, ho, _, _ => by
            cases ho
            rw [if_pos (wanted_none _ rfl)]
            have h1 := eval_getD (hm.get 5 16 (by kernel_rfl)); have h2 := eval_getD (hm.get 10 21 (by kernel_rfl)); unfold Oper.wp; simp only [execOp]; go_simp; (first | exact ⟨_, rfl, rfl⟩ | exact ⟨_, rfl, rfl, rfl⟩)
        | 12, _, _, h, _ => absurd rfl h
        | 13, _, _, _, h => absurd rfl h
        | (n + 14), hi, _, _, _ => absurd hi (by omega)
      · cases ho
        obtain rfl : w = W.drew := hj
        have h1 := eval_getD (hm.get 11 22 (by kernel_rfl))
        unfold Oper.wp
        simp only [execOp]
        go_simp
        exact ⟨_, rfl, show Value.slice _ _ _ = Value.slice _ _ _ by rw [Hg.out], rfl⟩
      · have hj1 : w = W.drew.alloc (.cells #[S xp, S xi] 110) := hj
        subst hj1
        obtain ⟨h1, h2, h3, h4, h5⟩ : a.eval (.tmp 11) = .slice Ao k co ∧ a.eval (.tmp 23) = .slice (some ⟨g, 0, none⟩) 1 1 ∧ o.op = .call { callee := .builtin .append, args := #[.tmp 11, .tmp 23], argTypes := #[71, 71] } ∧ o.dst = some 24 ∧ o.type = 71 := by
          cases ho
          exact ⟨hm.get 0 11 (by kernel_rfl), hm.get 12 23 (by kernel_rfl), rfl, rfl, rfl⟩
        rw [Hg.out] at h2
        have hr := Hrun.out
        simp only [World.size_drew] at hr
        unfold Oper.wp execOp
        simp only [h3, h5, resolve, invoke, builtin, Sem.run_bind, Sem.run_pure, Result.andThen_ok, List.map_toArray, List.map_cons, List.map_nil, h1, h2, hr]
        exact ⟨_, rfl, rfl, rfl⟩
      · have e1 : a.eval (.tmp 24) = .slice A5 (k + 1) c5 := by cases ho; exact hm.get 13 24 (by kernel_rfl)
        have hfr := hs.frame [11, 12, 13, 14, 15, 16, 17, 18, 19, 20, 21, 22, 23, 24] (by kernel_rfl)
        cases ho
        obtain rfl : w = w5 := hj
        rw [hfr]
        simp only [List.foldl_cons, List.foldl_nil, e1]
        clear hfr hs hm e1
        generalize a.eval (.tmp 11) = u11
        generalize a.eval (.tmp 12) = u12
        generalize a.eval (.tmp 13) = u13
        generalize a.eval (.tmp 14) = u14
        generalize a.eval (.tmp 15) = u15
        generalize a.eval (.tmp 16) = u16
        generalize a.eval (.tmp 17) = u17
        generalize a.eval (.tmp 18) = u18
        generalize a.eval (.tmp 19) = u19
        generalize a.eval (.tmp 20) = u20
        generalize a.eval (.tmp 21) = u21
        generalize a.eval (.tmp 22) = u22
        generalize a.eval (.tmp 23) = u23
        unfold Oper.wp
        simp only [execOp]
        go_simp
        clear a
        go_wp2
        go_roundw
        case rel => exact ⟨k + 1, c5, A5, by go_num, rfl, Lib.hid hlt, HO5⟩
        case measure => simp [intOf]; omega
    · obtain rfl : k = n := by have := hk.out; omega
      rw [List.take_of_length_le (by omega)] at hO
      go_wp2
      go_ret
      exact ⟨Ao, co, rfl, hO.out⟩
set_option maxRecDepth 100000 in
set_option maxHeartbeats 8000000 in
theorem rfiles_any (E : Nat → Prop) (w : World) (q : Nat) (l : List Ent) (hR : RIx E w q l) (hn : l.length ≤ 1000000) :
    Calls Tryz.prog 33 #[.pointer (some ⟨q, 0, none⟩)] w fun e w' => ∃ (A : Option Addr) (t c : Nat), e = .returned (.slice A t c) ∧ t = (filesOf l).length ∧ Ow w w' 110 2 A t c (fls (filesOf l)) := by
  obtain ⟨i0, hi0, hi1, hi2, hi3⟩ := info_parts Tryz.infoRFil
  obtain ⟨_, _, A, c, hB, hc, hS⟩ := hR
  have HQ := Lib.hid hB
  have HA := Lib.hid hS.1
  clear hB hc hS
  go_enter Tryz.func33, Tryz.ntmps33
  go_wp2
  go_loopw [3, 4] (fun o i wr => ∃ (k co t : Nat) (Ao : Option Addr), i = .int .i64 k ∧ o = .slice Ao t co ∧ Hid (k ≤ l.length) ∧ Hid (t = (filesOf (l.take k)).length) ∧ Hid (Ow w wr 110 2 Ao t co (fls (filesOf (l.take k))))) (fun _ i _ => l.length - (intOf i).toNat)
  case atStart => exact ⟨0, 0, 0, none, rfl, rfl, Lib.hid (Nat.zero_le _), Lib.hid rfl, Lib.hid (Ow.nil_ (Below.refl _ _))⟩
  case round =>
    obtain ⟨k, co, t, Ao, rfl, rfl, hk, ht, hO⟩ := hrel
    have rb := (HQ.out.step hO.out.2).cell
    by_cases hlt : k < l.length
    · obtain ⟨b, off, x, rfl, _, hx, x0, x1, x2, x3, x4⟩ := (HA.out.below hO.out.2).ent hlt
      have Hx := Lib.hid hx
      have hbd : t ≤ 1000000 := by
        have h1 := filesOf_len l k
        have h2 := ht.out
        have h3 := hk.out
        omega
      clear hx
      obtain ⟨xp, xs, xi, xz, xt⟩ := x
      by_cases hs : xs = 0
      · subst hs
        have q1 : Hid (t + 1 ≤ maxLen) := Lib.hid (by simp only [maxLen]; omega)
        have q2 : Hid ((t + 1) * 32 ≤ 140737488355328) := Lib.hid (by omega)
        obtain ⟨W, hW⟩ : ∃ W, W = wr := ⟨_, rfl⟩
        subst hW
        have HO6 := Lib.hid (hO.out.drew.alloc (.cells #[S xp, S xi] 110))
        have hS6 := sl_fil W.drew 110 (xp, xi)
        obtain ⟨A5, c5, w5, hrun, hO5, hg5, _⟩ := run_append_sl (P := Tryz.prog) _ w.heap.size 71 71 110 i0 _ 2 32 Tryz.underlying71 hi0 hi1 hi2 hi3 rfl (by decide) (.slice Ao t co) t (fls (filesOf (l.take k))) HO6.out.1 _ 1 1 (fls [(xp, xi)]) hS6 (one_fls _) q1.out q2.out HO6.out.2.size
        have hb5 : Below w.heap.size w w5 := HO6.out.2.grown hg5 HO6.out.2.size (fun k hk => (HO6.out.1.lt k hk).1)
        have HO5 : Hid (Ow w w5 110 2 A5 (t + 1) c5 (fls (filesOf (l.take (k + 1))))) := Lib.hid ⟨by rw [filesOf_snoc Hx.out, if_pos rfl, fls_append]; exact hO5, hb5⟩
        have HB := Lib.hid (TJ.bel (w0 := w) (W0 := W.drew) (W1 := W.drew.alloc (.cells #[S xp, S xi] 110)) (W2 := w5) hO.out.2.drew HO6.out.2 hb5)
        have Hrun := Lib.hid hrun
        have Hx2 : Hid (∀ w', Below w.heap.size w w' → w'.cell? ⟨b, off + k * 5, none⟩ = some (S xp) ∧ w'.cell? ⟨b, off + k * 5 + 2, none⟩ = some (S xi)) := Lib.hid (fun w' hb' => by
          obtain ⟨b2, off2, y, e1, _, hy, z0, z1, z2, z3, z4⟩ := (HA.out.below hb').ent hlt
          cases e1
          obtain rfl : y = ⟨xp, 0, xi, xz, xt⟩ := Option.some.inj (hy.symm.trans Hx.out)
          exact ⟨z0, z2⟩)

        clear hS6 hrun hO5 hg5 hb5 HO6
        obtain ⟨g, hg⟩ : ∃ g, g = W.heap.size := ⟨_, rfl⟩
        have Hg := Lib.hid hg
        clear hg
        go_wp2
        clear x0 x1 x2 x3 x4 rb
        refine wp_region_pairR (by kernel_rfl) 20 (by kernel_rfl) ?_ (fun j v => rfiPhi b off l.length c k co t q g c5 Ao A5 xp xi j v W) 18 19 (by kernel_rfl) (fun w w' => w' = w) (fun _ => rfl) (TJ W.drew (W.drew.alloc (.cells #[S xp, S xi] 110)) w5) TJ.step rfl (fun i o hi hi1 hi2 ho a w hk' hk hk2 hs hm => ?_) (fun o ho a w hj hs hm => ?_) (fun o ho a w hj hs hm => ?_) (fun o ho a w hj hs hm => ?_)
        · exact dst_ltT (n := 44) (by kernel_rfl)
        · obtain ⟨y0, y1⟩ := Hx2.out w (HB.out hk' w hk)
          exact match i, hi, ho, hi1, hi2 with
          | 0, _, ho, _, _ => by
              cases ho
              rw [if_pos (wanted_none _ rfl)]
              refine wp_value (st_move rfl ((hs.keeps (by kernel_rfl)).trans rfl)) ⟨_, rfl, rfl, rfl⟩
          | 1, _, ho, _, _ => by
              cases ho
              rw [if_pos (wanted_none _ rfl)]
              refine wp_value (st_move rfl ((hs.keeps (by kernel_rfl)).trans rfl)) ⟨_, rfl, rfl, rfl⟩
          | 2, _, ho, _, _ => by
              cases ho
              rw [if_pos (wanted_none _ rfl)]
              refine wp_value (st_nil rfl (hm.get 1 24 (by kernel_rfl))) ⟨_, rfl, rfl, rfl⟩
          | 3, _, ho, _, _ => by
              cases ho
              rw [if_pos (wanted_none _ rfl)]
              refine wp_value (st_field rfl (hm.get 2 25 (by kernel_rfl)) (by kernel_rfl)) ⟨_, rfl, rfl, rfl⟩
          | 4, _, ho, _, _ => by
              cases ho
              rw [if_pos (wanted_none _ rfl)]
              have hx : w.cell? ⟨q, 0, none⟩ = some (.slice (some ⟨b, off, none⟩) l.length c) := (HQ.out.step (HB.out hk' w hk)).cell 0; refine wp_value (st_load rfl (hm.get 3 26 (by kernel_rfl)) (by go_simp)) ⟨_, rfl, rfl, rfl⟩
          | 5, _, ho, _, _ => by
              cases ho
              rw [if_pos (wanted_none _ rfl)]
              refine wp_value (st_move rfl ((hs.keeps (by kernel_rfl)).trans rfl)) ⟨_, rfl, rfl, rfl⟩
          | 6, _, ho, _, _ => by
              cases ho
              rw [if_pos (wanted_none _ rfl)]
              have h1 := eval_getD (hm.get 4 27 (by kernel_rfl)); have h2 := eval_getD (hm.get 5 28 (by kernel_rfl)); unfold Oper.wp; simp only [execOp]; go_simp; (first | exact ⟨_, rfl, rfl⟩ | exact ⟨_, rfl, rfl, rfl⟩)
          | 7, _, ho, _, _ => by
              cases ho
              rw [if_pos (wanted_none _ rfl)]
              have h1 := eval_getD (hm.get 6 29 (by kernel_rfl)); unfold Oper.wp; simp only [execOp]; go_simp; (first | exact ⟨_, rfl, rfl⟩ | exact ⟨_, rfl, rfl, rfl⟩)
          | 8, _, ho, _, _ => by
              cases ho
              rw [if_pos (wanted_none _ rfl)]
              have h1 := eval_getD (hm.get 7 30 (by kernel_rfl)); unfold Oper.wp; simp only [execOp]; go_simp; (first | exact ⟨_, rfl, rfl⟩ | exact ⟨_, rfl, rfl, rfl⟩)
          | 9, _, ho, _, _ => by
              cases ho
              rw [if_pos (wanted_none _ rfl)]
              refine wp_value (st_move rfl ((hs.keeps (by kernel_rfl)).trans rfl)) ⟨_, rfl, rfl, rfl⟩
          | 10, _, ho, _, _ => by
              cases ho
              rw [if_pos (wanted_none _ rfl)]
              refine wp_value (st_nil rfl (hm.get 9 32 (by kernel_rfl))) ⟨_, rfl, rfl, rfl⟩
          | 11, _, ho, _, _ => by
              cases ho
              rw [if_pos (wanted_none _ rfl)]
              refine wp_value (st_field rfl (hm.get 10 33 (by kernel_rfl)) (by kernel_rfl)) ⟨_, rfl, rfl, rfl⟩
          | 12, _, ho, _, _ => by
              cases ho
              rw [if_pos (wanted_none _ rfl)]
              have hx : w.cell? ⟨q, 0, none⟩ = some (.slice (some ⟨b, off, none⟩) l.length c) := (HQ.out.step (HB.out hk' w hk)).cell 0; refine wp_value (st_load rfl (hm.get 11 34 (by kernel_rfl)) (by go_simp)) ⟨_, rfl, rfl, rfl⟩
          | 13, _, ho, _, _ => by
              cases ho
              rw [if_pos (wanted_none _ rfl)]
              refine wp_value (st_move rfl ((hs.keeps (by kernel_rfl)).trans rfl)) ⟨_, rfl, rfl, rfl⟩
          | 14, _, ho, _, _ => by
              cases ho
              rw [if_pos (wanted_none _ rfl)]
              have h1 := eval_getD (hm.get 12 35 (by kernel_rfl)); have h2 := eval_getD (hm.get 13 36 (by kernel_rfl)); unfold Oper.wp; simp only [execOp]; go_simp; (first | exact ⟨_, rfl, rfl⟩ | exact ⟨_, rfl, rfl, rfl⟩)
          | 15, _, ho, _, _ => by
              cases ho
              rw [if_pos (wanted_none _ rfl)]
              have h1 := eval_getD (hm.get 14 37 (by kernel_rfl)); unfold Oper.wp; simp only [execOp]; go_simp; (first | exact ⟨_, rfl, rfl⟩ | exact ⟨_, rfl, rfl, rfl⟩)
          | 16, _, ho, _, _ => by
              cases ho
              rw [if_pos (wanted_none _ rfl)]
              have h1 := eval_getD (hm.get 15 38 (by kernel_rfl)); unfold Oper.wp; simp only [execOp]; go_simp; (first | exact ⟨_, rfl, rfl⟩ | exact ⟨_, rfl, rfl, rfl⟩)
          | 17, _, ho, _, _ => by
              cases ho
              rw [if_pos (wanted_none _ rfl)]
              have h1 := eval_getD (hm.get 8 31 (by kernel_rfl)); have h2 := eval_getD (hm.get 16 39 (by kernel_rfl)); unfold Oper.wp; simp only [execOp]; go_simp; (first | exact ⟨_, rfl, rfl⟩ | exact ⟨_, rfl, rfl, rfl⟩)
          | 18, _, _, h, _ => absurd rfl h
          | 19, _, _, _, h => absurd rfl h
          | (n + 20), hi, _, _, _ => absurd hi (by omega)
        · cases ho
          obtain rfl : w = W.drew := hj
          have h1 := eval_getD (hm.get 17 40 (by kernel_rfl))
          unfold Oper.wp
          simp only [execOp]
          go_simp
          exact ⟨_, rfl, show Value.slice _ _ _ = Value.slice _ _ _ by rw [Hg.out], rfl⟩
        · have hj1 : w = W.drew.alloc (.cells #[S xp, S xi] 110) := hj
          subst hj1
          obtain ⟨h1, h2, h3, h4, h5⟩ : a.eval (.tmp 23) = .slice Ao t co ∧ a.eval (.tmp 41) = .slice (some ⟨g, 0, none⟩) 1 1 ∧ o.op = .call { callee := .builtin .append, args := #[.tmp 23, .tmp 41], argTypes := #[71, 71] } ∧ o.dst = some 42 ∧ o.type = 71 := by
            cases ho
            exact ⟨hm.get 0 23 (by kernel_rfl), hm.get 18 41 (by kernel_rfl), rfl, rfl, rfl⟩
          rw [Hg.out] at h2
          have hr := Hrun.out
          simp only [World.size_drew] at hr
          unfold Oper.wp execOp
          simp only [h3, h5, resolve, invoke, builtin, Sem.run_bind, Sem.run_pure, Result.andThen_ok, List.map_toArray, List.map_cons, List.map_nil, h1, h2, hr]
          exact ⟨_, rfl, rfl, rfl⟩
        · have e1 : a.eval (.tmp 42) = .slice A5 (t + 1) c5 := by cases ho; exact hm.get 19 42 (by kernel_rfl)
          have hfr := hs.frame [23, 24, 25, 26, 27, 28, 29, 30, 31, 32, 33, 34, 35, 36, 37, 38, 39, 40, 41, 42] (by kernel_rfl)
          cases ho
          obtain rfl : w = w5 := hj
          rw [hfr]
          simp only [List.foldl_cons, List.foldl_nil, e1]
          clear hfr hs hm e1
          generalize a.eval (.tmp 23) = u23
          generalize a.eval (.tmp 24) = u24
          generalize a.eval (.tmp 25) = u25
          generalize a.eval (.tmp 26) = u26
          generalize a.eval (.tmp 27) = u27
          generalize a.eval (.tmp 28) = u28
          generalize a.eval (.tmp 29) = u29
          generalize a.eval (.tmp 30) = u30
          generalize a.eval (.tmp 31) = u31
          generalize a.eval (.tmp 32) = u32
          generalize a.eval (.tmp 33) = u33
          generalize a.eval (.tmp 34) = u34
          generalize a.eval (.tmp 35) = u35
          generalize a.eval (.tmp 36) = u36
          generalize a.eval (.tmp 37) = u37
          generalize a.eval (.tmp 38) = u38
          generalize a.eval (.tmp 39) = u39
          generalize a.eval (.tmp 40) = u40
          generalize a.eval (.tmp 41) = u41
          unfold Oper.wp
          simp only [execOp]
          go_simp
          clear a
          go_wp2
          go_roundw
          case rel => exact ⟨k + 1, c5, t + 1, A5, by go_num, rfl, Lib.hid hlt, Lib.hid (by rw [filesOf_snoc Hx.out, if_pos rfl, List.length_append, ← ht.out]; rfl), HO5⟩
          case measure => simp [intOf]; omega
      · have hq : (xs == 0) = false := beq_eq_false_iff_ne.2 hs
        go_wp2
        go_roundw
        case rel => exact ⟨k + 1, co, t, Ao, by go_num, rfl, Lib.hid hlt, Lib.hid (by rw [filesOf_snoc Hx.out, if_neg hs, List.append_nil]; exact ht.out), Lib.hid (by rw [filesOf_snoc Hx.out, if_neg hs, List.append_nil]; exact hO.out)⟩
        case measure => simp [intOf]; omega
    · obtain rfl : k = l.length := by have := hk.out; omega
      rw [List.take_length] at ht hO
      go_wp2
      go_ret
      exact ⟨Ao, t, co, rfl, ht.out, hO.out⟩

def eqF (a b : Fil) : Bool := decide (a.1 = b.1) && decide (a.2 = b.2)
theorem eqF_self (a : Fil) : eqF a a = true := by simp [eqF]
theorem neq_rfil (w : World) (a b : Fil) : (binOp .neq 110 (.agg #[S a.1, S a.2]) (.agg #[S b.1, S b.2])).run Tryz.prog w = .ok (.bool (!eqF a b)) w := by
  rw [run_neq_struct, run_equalIn_struct w 9999 110 _ _ (by kernel_rfl) (by kernel_rfl)]
  simp only [Program.fieldsOf, Tryz.underlying110]
  by_cases h1 : a.1 = b.1 <;> by_cases h2 : a.2 = b.2 <;> simp [go_sem, Op.eqFields, eqF, h1, h2]
theorem guard_rfil (w : World) (op : BinOp) (x y : Operand) (a b : Fil) : (eqGuard op 110 x y (.agg #[S a.1, S a.2]) (.agg #[S b.1, S b.2])).run Tryz.prog w = .ok () w := run_eqGuard_agg w op 110 x y _ _ (by kernel_rfl)
set_option maxRecDepth 100000 in
set_option maxHeartbeats 2000000 in
theorem fsame_yes (w : World) (A B : Option Addr) (n c d : Nat) (l : List Fil) (hA : Sl w 2 A n (fls l)) (hB : Sl w 2 B n (fls l)) (hn : n ≤ 1000000) :
    Calls Tryz.prog 31 #[.slice A n c, .slice B n d] w fun e w' => e = .returned (.bool true) ∧ ∃ m, w' = w.drewN m := by
  have HA := Lib.hid hA
  have HB := Lib.hid hB
  have kE := neq_rfil
  have kG := guard_rfil
  clear hA hB
  go_enter Tryz.func31, Tryz.ntmps31
  go_wp2
  go_loopw [5] (fun i wr => ∃ (k m : Nat), i = .int .i64 k ∧ Hid (k ≤ n) ∧ wr = w.drewN m) (fun i _ => n - (intOf i).toNat)
  case atStart => exact ⟨0, 0, rfl, Lib.hid (Nat.zero_le _), rfl⟩
  case round =>
    obtain ⟨k, mm, rfl, hk, rfl⟩ := hrel
    by_cases hlt : k < n
    · obtain ⟨b, off, x, rfl, _, hx, x0, x1⟩ := HA.out.fil hlt
      obtain ⟨b', off', x', rfl, _, hx', y0, y1⟩ := HB.out.fil hlt
      obtain rfl : x = x' := Option.some.inj (hx.symm.trans hx')
      have hq : eqF x x = true := eqF_self x
      clear hx hx'
      go_wp2
      go_quiet (fail)
      go_wp2
      go_roundw
      case rel => exact ⟨k + 1, _, by go_num, Lib.hid hlt, rfl⟩
      case measure => simp [intOf]; omega
    · obtain rfl : k = n := by have := hk.out; omega
      go_wp2
      go_ret
      exact ⟨rfl, _, rfl⟩
end Go.Proofs.YtjcelelgebohkaaGreatDoor

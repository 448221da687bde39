/-
  pair.Renames where one change is gone, one is fresh, and both are of one blob: nothing is read. Condition: the list can be read.
-/
import Derived.Test.YtkginbfpokbhcaaGreatDoorPairSplit
import Derived.Test.YtkginbfpokbhcaaGreatDoorPairExact
namespace Go.Proofs.YtkginbfpokbhcaaGreatDoor
open Go.RowKit Go.Shelf

def goneB (x : Chg3) : Bool := decide (x.2.2 = []) && !decide (x.2.1 = [])
def freshB (x : Chg3) : Bool := decide (x.2.1 = []) && !decide (x.2.2 = [])
set_option maxRecDepth 100000 in
theorem gone_any (x : Chg3) (w : World) :
    Calls Tryz.prog 68 #[.agg #[S x.1, S x.2.1, S x.2.2]] w fun e w' => e = .returned (.bool (goneB x)) ∧ Below w.heap.size w w' := by
  have hr := (Blk.new w 73 #[S x.1, S x.2.1, S x.2.2]).cell
  cases h1 : (x.2.2 == []) <;> cases h2 : (x.2.1 == [])
  all_goals
    have e : goneB x = ((x.2.2 == []) && !(x.2.1 == [])) := by
      unfold goneB
      rw [Bool.eq_iff_iff]
      simp
    rw [h1, h2] at e
    rw [e]
    clear e
    go_enter Tryz.func68, Tryz.ntmps68
    go_wp2
    go_ret
    exact ⟨rfl, balloc (Below.refl _ w) _⟩
set_option maxRecDepth 100000 in
theorem fresh_any (x : Chg3) (w : World) :
    Calls Tryz.prog 69 #[.agg #[S x.1, S x.2.1, S x.2.2]] w fun e w' => e = .returned (.bool (freshB x)) ∧ Below w.heap.size w w' := by
  have hr := (Blk.new w 73 #[S x.1, S x.2.1, S x.2.2]).cell
  cases h1 : (x.2.1 == []) <;> cases h2 : (x.2.2 == [])
  all_goals
    have e : freshB x = ((x.2.1 == []) && !(x.2.2 == [])) := by
      unfold freshB
      rw [Bool.eq_iff_iff]
      simp
    rw [h1, h2] at e
    rw [e]
    clear e
    go_enter Tryz.func69, Tryz.ntmps69
    go_wp2
    go_ret
    exact ⟨rfl, balloc (Below.refl _ w) _⟩
set_option maxHeartbeats 8000000 in
set_option maxRecDepth 100000 in
theorem renames1_any (sv : Option Addr) (A : Option Addr) (n c : Nat) (l : List Chg3) (w : World) (pg pf og : List UInt8) (hA : Sl w 3 A n (cgs l)) (hn : n ≤ 1000000) (hg : l.filter goneB = [(pg, og, [])]) (hf : (l.filter (fun x => !goneB x)).filter freshB = [(pf, [], og)]) :
    Calls Tryz.prog 30 #[.pointer sv, .slice A n c] w fun e w' => ∃ A' c', e = .returned (.tuple #[.slice A' 1 c', I 0]) ∧ Sl w' 3 A' 1 (rns [(pg, pf, 100)]) ∧ Below w.heap.size w w' := by
  obtain ⟨i0, hi0, hz0, hz1, hz2⟩ := info_parts Tryz.infoRen
  have hmm := @run_makeMap Tryz.prog
  have C1 := psplit_any 68 #[] (enters_of Tryz.func68 (by kernel_rfl) rfl) goneB A n c l w hA hn (fun x _ W _ => gone_any x W)
  have hln : (l.filter (fun x => !goneB x)).length ≤ 1000000 := by
    have h1 := List.length_filter_le (fun x => !goneB x) l
    have h2 := cgs_count hA
    omega
  have C2 := fun (W : World) (A2 : Option Addr) (n2 c2 : Nat) (h : Sl W 3 A2 n2 (cgs (l.filter (fun x => !goneB x)))) (h2 : n2 ≤ 1000000) => psplit_any 69 #[] (enters_of Tryz.func69 (by kernel_rfl) rfl) freshB A2 n2 c2 _ W h h2 (fun x _ W _ => fresh_any x W)
  rw [hg] at C1
  rw [hf] at C2
  have HC1 := Lib.hid C1
  have HC2 := Lib.hid C2
  have Hln := Lib.hid hln
  clear hA hg hf C1 C2 hln
  go_enter Tryz.func30, Tryz.ntmps30
  go_wp2_with (first
    | (go_at_call 67; (with_reducible refine HC1.out.mono ?_); rintro e w1 ⟨A1, n1, c1, A2, n2, c2, rfl, hn1, hn2, hO1, hO2, _⟩; obtain rfl : n1 = 1 := hn1; have HO1 := Lib.hid hO1; have HO2 := Lib.hid hO2; have Hn2 : Hid (n2 ≤ 1000000) := Lib.hid (by rw [hn2]; exact Hln.out); clear hn2 hO1 hO2)
    | (go_at_call 67; (with_reducible refine (HC2.out w1 A2 n2 c2 HO2.out.sl Hn2.out).mono ?_); rintro e w2 ⟨A3, n3, c3, A4, n4, c4, rfl, hn3, hn4, hO3, hO4, _⟩; obtain rfl : n3 = 1 := hn3; have HO3 := Lib.hid hO3; clear hn4 hO3 hO4))
  obtain ⟨g, rfl, hg0, hg1⟩ := HO1.out.form (by omega)
  obtain ⟨gf, rfl, hf0, hf1⟩ := HO3.out.form (by omega)
  obtain ⟨z, hz⟩ : ∃ z, z = w2.heap.size := ⟨_, rfl⟩
  obtain ⟨W3, hW3⟩ : ∃ W3, W3 = ((w2.alloc (.map #[] 0)).alloc (.map #[] 0)).alloc (.cells #[.pointer sv, .slice (some ⟨g, 0, none⟩) 1 c1, .map (some z), .map (some (z + 1))] 149) := ⟨_, rfl⟩
  simp only [← hz]
  rw [← hW3]
  have b3 : Below w2.heap.size w2 W3 := hW3 ▸ balloc (balloc (balloc (Below.refl _ w2) _) _) _
  have HB : Hid (Blk W3 (z + 2) 149 #[.pointer sv, .slice (some ⟨g, 0, none⟩) 1 c1, .map (some z), .map (some (z + 1))]) := Lib.hid (by
    have h := Blk.new ((w2.alloc (.map #[] 0)).alloc (.map #[] 0)) 149 #[.pointer sv, .slice (some ⟨g, 0, none⟩) 1 c1, .map (some z), .map (some (z + 1))]
    rw [World.size_alloc, World.size_alloc, ← hz] at h
    rw [hW3]
    exact h)
  have HM : Hid (MapIs pairC W3 (z + 1) 0 (fun _ => none)) := Lib.hid (by
    have h := MapIs.made pairC (w2.alloc (.map #[] 0))
    rw [World.size_alloc, ← hz] at h
    rw [hW3]
    exact h.alloc _)
  have b13 : Below w1.heap.size w1 W3 := bstep HO3.out.2 b3
  have HR : Hid (oneRow W3 w.heap.size g c1 (pg, og, [])) := Lib.hid (own_step9 HO1.out.1 b13)
  have HF3 : Hid (SlF (fun j => j = z + 2 ∨ j = z + 1 ∨ j = g) W3 3 (some ⟨gf, 0, none⟩) 1 (cgs [(pf, [], og)])) := Lib.hid ⟨HO3.out.sl.below b3, fun b off _ e => by
    cases e
    omega⟩
  have HBw := Lib.hid (bstep HO1.out.2 b13)
  have hgz : Hid (w.heap.size ≤ g ∧ w.heap.size ≤ z) := Lib.hid ⟨hg0, by have := HO1.out.2.size; have := HO3.out.2.size; omega⟩
  clear hz hW3 b3 b13 hg0 hg1 hf0 hf1 HO1 HO2 HO3 HC1 HC2 hmm
  obtain ⟨f1, hf1⟩ : ∃ f1 : Int → Option Ren, f1 = upd (fun _ => none) 0 (some (pg, pf, 100)) := ⟨_, rfl⟩
  have Hf1 := Lib.hid hf1
  clear hf1
  go_loopw [40] (fun s40 wr => ∃ k : Nat, k ≤ 1 ∧ s40 = .int .i64 k ∧ Hid ((k = 0 → Blk wr (z + 2) 149 #[.pointer sv, .slice (some ⟨g, 0, none⟩) 1 c1, .map (some z), .map (some (z + 1))] ∧ oneRow wr w.heap.size g c1 (pg, og, []) ∧ MapIs pairC wr (z + 1) 0 (fun _ => none)) ∧
      (k = 1 → Blk wr (z + 2) 149 #[.pointer sv, .slice (some ⟨g, 0, none⟩) 0 c1, .map (some z), .map (some (z + 1))] ∧ MapIs pairC wr (z + 1) 1 f1)) ∧ Hid (Fr (fun j => j = z + 2 ∨ j = z + 1 ∨ j = g) W3 wr)) (fun s40 _ => 1 - (intOf s40).toNat)
  case atStart => exact ⟨0, Nat.zero_le _, rfl, Lib.hid ⟨fun _ => ⟨HB.out, HR.out, HM.out⟩, fun h => by omega⟩, Lib.hid (Fr.refl _ _)⟩
  case round =>
    obtain ⟨k, hk, rfl, hS, hF⟩ := hrel
    by_cases hlt : k < 1
    · obtain ⟨sB, sR, sM⟩ := hS.out.1 (by omega)
      obtain ⟨b, off, x, e, _, hx, x0, x1, x2⟩ := (HF3.out.fr hF.out).1.cg hlt
      cases e
      have hx2 : x = (pf, [], og) := by
        have hk0 : k = 0 := by omega
        rw [hk0] at hx
        exact (Option.some.inj hx).symm
      subst hx2
      simp only [Nat.zero_add] at x0 x1 x2
      have b5 := balloc (Below.refl _ wr) (.cells #[S pf, S [], S og] 73)
      have r5 := (Blk.new wr 73 #[S pf, S [], S og]).cell
      have CE := Lib.hid (exact_yes _ w.heap.size (z + 2) g (z + 1) c1 0 k (.pointer sv) (.map (some z)) (pg, og, []) (pf, [], og) (fun _ => none) (sB.step b5) (own_step9 sR b5) (sM.step b5) (by omega) (by omega) rfl)
      have B5 := Lib.hid b5
      have hd1 : decide ((k : Int) < 1) = true := by simp; omega
      clear sB sR sM hx hS b5
      go_wp2_with (go_at_call 70; refine CE.out.mono ?_; rintro e w4 ⟨rfl, h1, h2, h3⟩; have H1 := Lib.hid h1; have H2 := Lib.hid h2; have H3 := Lib.hid h3; clear h1 h2 h3)
      go_roundw
      case rel =>
        refine ⟨k + 1, hlt, by go_num, Lib.hid ⟨fun h => by omega, fun _ => ⟨H1.out, ?_⟩⟩, Lib.hid (hF.out.trans ((Fr.of_below B5.out).trans H3.out))⟩
        have h9 := H2.out
        have hk0 : (k : Int) = 0 := by omega
        rw [hk0, ← Hf1.out] at h9
        exact h9
      case measure => simp [intOf]; omega
    · obtain ⟨sB, sM⟩ := hS.out.2 (by omega)
      have SB := Lib.hid sB
      have SM := Lib.hid sM
      have hd1 : decide ((k : Int) < 1) = false := by simp; omega
      have HF5 := Lib.hid (HF3.out.fr hF.out)
      have HFw := Lib.hid hF.out
      clear sB sM hS HB HM HR hF HF3
      go_wp2
      clear hd1
      have W5 : Hid (Below w.heap.size w wr) := Lib.hid (HBw.out.trans (HFw.out.below HBw.out.size (fun j hj => by have := hgz.out; omega)))
      go_loopw [52] (fun s52 wr2 => ∃ k : Nat, k ≤ 1 ∧ s52 = .int .i64 k ∧ Hid (Below wr.heap.size wr wr2)) (fun s52 _ => 1 - (intOf s52).toNat)
      case atStart => exact ⟨0, Nat.zero_le _, rfl, Lib.hid (Below.refl _ _)⟩
      case round =>
        obtain ⟨k, hk, rfl, hb⟩ := hrel
        by_cases hlt : k < 1
        · obtain ⟨b, off, x, e, _, hx, x0, x1, x2⟩ := (HF5.out.1.below hb.out).cg hlt
          cases e
          have hx2 : x = (pf, [], og) := by
            have hk0 : k = 0 := by omega
            rw [hk0] at hx
            exact (Option.some.inj hx).symm
          subst hx2
          simp only [Nat.zero_add] at x0 x1 x2
          have b5 := balloc (Below.refl _ wr) (.cells #[S pf, S [], S og] 73)
          have B5 := Lib.hid (bstep hb.out b5)
          have r6 := (SB.out.step B5.out).cell
          have hm5 := SM.out.step B5.out
          have E1 : Hid (f1 (k : Int) = some (pg, pf, 100)) := Lib.hid (by
            have hk0 : (k : Int) = 0 := by omega
            rw [hk0, Hf1.out]
            simp [upd])
          have E2 : Hid (pairC.vv (pg, pf, 100) = .agg #[S pg, S pf, I 100]) := Lib.hid rfl
          have hgk := small_good k (by omega)
          have hd1 : decide ((k : Int) < 1) = true := by simp; omega
          clear hx b5
          go_wp2_with (at_lookup; refine wpList_look_ok _ rfl _ _ 147 rfl pairC Tryz.underlying147 ([], [], 0) (Tryz.zeroRen _) (z + 1) 1 _ rfl hm5 (k : Int) rfl hgk ?_; rw [E1.out]; simp only [Option.getD_some]; rw [E2.out])
          go_roundw
          case rel => exact ⟨k + 1, hlt, by go_num, Lib.hid (bstep B5.out (balloc (Below.refl _ _) _))⟩
          case measure => simp [intOf]; omega
        · have hd1 : decide ((k : Int) < 1) = false := by simp; omega
          have Hb := Lib.hid hb.out
          clear hb
          go_wp2
          clear hd1
          go_loopw [18, 77] (fun s18 s77 wr3 => ∃ (k c3 : Nat) (A3 : Option Addr), k ≤ 1 ∧ s77 = .int .i64 k ∧ s18 = .slice A3 k c3 ∧ Hid (Ow wr wr3 70 3 A3 k c3 (rns ([(pg, pf, 100)].take k)))) (fun _ s77 _ => 1 - (intOf s77).toNat)
          case atStart => exact ⟨0, 0, none, Nat.zero_le _, rfl, rfl, Lib.hid (Ow.nil_ (Below.refl _ _))⟩
          case round =>
            obtain ⟨k, c3, A3, hk, rfl, rfl, HO⟩ := hrel
            by_cases hlt : k < 1
            · have hm5 := SM.out.step (bstep Hb.out HO.out.2)
              have r6 := (SB.out.step (bstep Hb.out HO.out.2)).cell
              have hbx := balloc (Below.refl _ wr) (.cells #[S pg, S pf, I 100] 70)
              have E1 : Hid (f1 (k : Int) = some (pg, pf, 100)) := Lib.hid (by
                have hk0 : (k : Int) = 0 := by omega
                rw [hk0, Hf1.out]
                simp [upd])
              have E2 : Hid (pairC.vv (pg, pf, 100) = .agg #[S pg, S pf, I 100]) := Lib.hid rfl
              have hgk := small_good k (by omega)
              have hd1 : decide ((k : Int) < 1) = true := by simp; omega
              have q1 := Lib.hid (show k + 1 ≤ maxLen by simp only [maxLen]; omega)
              have q2 := Lib.hid (show (k + 1) * 40 ≤ 140737488355328 by omega)
              have HO6 := Lib.hid ((HO.out.alloc (.cells #[S pg, S pf, I 100] 70)).alloc (.cells #[S pg, S pf, I 100] 70))
              have HS6 := Lib.hid (sl_rn (wr.alloc (.cells #[S pg, S pf, I 100] 70)) 70 (pg, pf, 100))
              simp only [World.size_alloc] at HS6
              have r7 := (Blk.new wr 70 #[S pg, S pf, I 100]).cell
              clear hbx
              go_wp2_with (first
                | (at_lookup; refine wpList_look_ok _ rfl _ _ 147 rfl pairC Tryz.underlying147 ([], [], 0) (Tryz.zeroRen _) (z + 1) 1 _ rfl hm5 (k : Int) rfl hgk ?_; rw [E1.out]; simp only [Option.getD_some]; rw [E2.out])
                | (at_builtin; refine wpList_append_sl _ rfl (.tmp 90) (.tmp 92) _ rfl _ 70 i0 _ 3 40 Tryz.underlying66 hi0 hz0 hz1 hz2 rfl (by decide) A3 k c3 _ rfl HO6.out _ 1 1 (rns [(pg, pf, 100)]) rfl HS6.out (one_rns _) q1.out q2.out ?_; intro A5 c5 w5 hO5 hg5 hat5; have HO5 := Lib.hid hO5; clear hO5 hg5 hat5))
              go_roundw
              case rel =>
                refine ⟨k + 1, c5, A5, hlt, by go_num, rfl, Lib.hid ?_⟩
                have hk0 : k = 0 := by omega
                have h9 := HO5.out
                rw [← rns_append] at h9
                have e9 : List.take k [(pg, pf, (100 : Int))] ++ [(pg, pf, 100)] = List.take (k + 1) [(pg, pf, 100)] := by rw [hk0]; rfl
                rw [e9] at h9
                exact h9
              case measure => simp [intOf]; omega
            · have hd1 : decide ((k : Int) < 1) = false := by simp; omega
              have h9 := HO.out
              have hk1 : k = 1 := by omega
              have e9 : List.take k [(pg, pf, (100 : Int))] = [(pg, pf, 100)] := by rw [hk1]; rfl
              rw [e9] at h9
              have H9 := Lib.hid h9
              have Hk1 := Lib.hid hk1
              clear h9 hk1 e9 HO
              go_wp2
              go_ret2
              exact ⟨A3, c3, by rw [Hk1.out]; rfl, by have h := H9.out.sl; rw [Hk1.out] at h; exact h, bstep W5.out (bstep Hb.out H9.out.2)⟩
end Go.Proofs.YtkginbfpokbhcaaGreatDoor

/-
  dolmenref17.regions: the sweep's regions. Conditions: slices of hunks read as lists, few of them; the sweep's regions are made up of them.
-/
import Derived.Test.YtpnogcblafmaiaaDoorRefSorted
import Derived.Test.YtpnogcblafmaiaaDoorRefHas
import Derived.Test.YtpnogcblafmaiaaDoorRefJoin
import Derived.Deep.RegionHeld3
import Derived.Deep.AppendLies
namespace Go.Proofs.YtpnogcblafmaiaaDoor
open Go.RowKit
open LineLaw (Hk)
open BlendLaw (Rg hunkRgs skip2 joinRg Parts Apart touch Loose sortRg)

/-- a row of regions of the call's own -/
structure RO (w0 w : World) (A : Option Addr) (n c : Nat) (L : List (Nat × Rg)) : Prop where
  own : Ow w0 w 81 3 A n c (rqs L)
  bl : ∀ e ∈ L, Blk w e.1 4 #[.bool e.2.t0, .bool e.2.t1]
section
variable {w0 w w' : World} {A : Option Addr} {n c : Nat} {L : List (Nat × Rg)}
theorem RO.rq (h : RO w0 w A n c L) : RQ w A n L := ⟨h.own.sl, h.bl⟩
theorem RO.len (h : RO w0 w A n c L) : L.length = n := h.rq.len
theorem RO.step (h : RO w0 w A n c L) (hb : Below w.heap.size w w') : RO w0 w' A n c L := ⟨h.own.keep hb, fun e he => (h.bl e he).step hb⟩
theorem RO.nil_ (hb : Below w0.heap.size w0 w) : RO w0 w none 0 0 [] := ⟨Ow.nil_ hb, fun e he => by cases he⟩
end
/-- a hunk as a region -/
def mkRg (t0 t1 : Bool) (h : Hk) : Rg := ⟨h.a0, h.a1, t0, t1⟩
theorem hunkRgs_mk (hs0 hs1 : List Hk) : hunkRgs hs0 hs1 = hs0.map (mkRg true false) ++ hs1.map (mkRg false true) := rfl
/-- behind an append of one region whose sides lie in a block of their own -/
theorem RO.more {w0 w w1 w' : World} {A A' : Option Addr} {n c c' g : Nat} {L : List (Nat × Rg)} {r : Rg} (h : RO w0 w A n c L) (hb : Below w.heap.size w w1) (hg : Blk w1 g 4 #[.bool r.t0, .bool r.t1]) (hO : Ow w0 w' 81 3 A' (n + 1) c' (rqs L ++ rqs [(g, r)])) (hgr : w1.grownBy w' (Value.slice A n c).ownBlock) : RO w0 w' A' (n + 1) c' (L ++ [(g, r)]) := by
  have h1 := h.step hb
  refine ⟨by rw [rqs_append]; exact hO, fun e he => ?_⟩
  rcases List.mem_append.1 he with he | he
  · exact (h1.bl e he).grown hgr (row_ne h1.own (h1.bl e he) (by decide))
  · obtain rfl : e = (g, r) := by simpa using he
    exact hg.grown hgr (row_ne h1.own hg (by decide))

theorem sl_rq2 (w : World) (t : TypeId) (o : Obj) (e : Nat × Rg) : Sl ((w.alloc o).alloc (.cells #[I e.2.lo, I e.2.hi, .slice (some ⟨e.1, 0, none⟩) 2 2] t)) 3 (some ⟨w.heap.size + 1, 0, none⟩) 1 (rqs [e]) := by
  have h := sl_rq (w.alloc o) t e
  rwa [World.size_alloc] at h

theorem skip2_map {α β : Type} (f : α → β) (i k : Nat) : ∀ (n : Nat) (L : List α), skip2 i k n (L.map f) = (skip2 i k n L).map f
  | n, [] => rfl
  | n, a :: t => by
    simp only [List.map_cons, skip2]
    rw [skip2_map f i k (n + 1) t]
    split <;> simp

set_option maxHeartbeats 8000000 in
set_option maxRecDepth 100000 in
theorem regions_any (gh : Nat) (H0 : Option Addr) (k0 d0 : Nat) (hs0 : List Hk) (H1 : Option Addr) (k1 d1 : Nat) (hs1 : List Hk) (C : List Rg) (w : World) (hG : Blk w gh 25 #[.slice H0 k0 d0, .slice H1 k1 d1]) (hH0 : Sl w 4 H0 k0 (hks hs0)) (hH1 : Sl w 4 H1 k1 (hks hs1)) (hk0 : k0 ≤ 10000) (hk1 : k1 ≤ 10000)
    (hC : Apart C) (hP : Parts C (hunkRgs hs0 hs1)) :
    Calls Tryd.prog 45 #[.slice (some ⟨gh, 0, none⟩) 2 2] w fun e w' => ∃ A n c L, e = .returned (.slice A n c) ∧ RQ w' A n L ∧ L.map (·.2) = C ∧ Below w.heap.size w w' := by
  obtain ⟨i0, hi0, hi1, hi2, hi3⟩ := info_parts Tryd.infoRg
  have HG := Lib.hid hG
  have HH0 := Lib.hid hH0
  have HH1 := Lib.hid hH1
  have HP := Lib.hid hP
  have HC := Lib.hid hC
  have Hl0 := Lib.hid (hks_count hH0)
  have Hl1 := Lib.hid (hks_count hH1)
  clear hG hH0 hH1 hP hC
  obtain ⟨full, hfull⟩ : ∃ full : Nat → List Rg, full = fun s => if s = 0 then [] else if s = 1 then hs0.map (mkRg true false) else hunkRgs hs0 hs1 := ⟨_, rfl⟩
  have hf0 : full 0 = [] := by rw [hfull]; rfl
  have hf1 : full 1 = full 0 ++ hs0.map (mkRg true false) := by rw [hfull]; rfl
  have hf2 : full 2 = full 1 ++ hs1.map (mkRg false true) := by rw [hfull]; rfl
  have hfl : ∀ s, (full s).length ≤ 20000 := by
    intro s
    have e0 := Hl0.out
    have e1 := Hl1.out
    rw [hfull]
    simp only
    split
    · simp
    · split
      · simp; omega
      · simp [hunkRgs]; omega
  have hf2' : full 2 = hunkRgs hs0 hs1 := by rw [hfull]; rfl
  have Hf0 := Lib.hid hf0
  have Hf1 := Lib.hid hf1
  have Hf2 := Lib.hid hf2
  have Hf2' := Lib.hid hf2'
  have Hfl := Lib.hid hfl
  clear hfull hf0 hf1 hf2 hfl hf2'
  go_enter Tryd.func45, Tryd.ntmps45
  go_wp2
  go_loopw [3, 4] (fun s3 s4 wr => ∃ (s n : Nat) (Ao : Option Addr) (co : Nat) (L : List (Nat × Rg)), s ≤ 2 ∧ s4 = .int .i64 s ∧ s3 = .slice Ao n co ∧ Hid (RO w wr Ao n co L) ∧ Hid (L.map (·.2) = full s)) (fun _ s4 _ => 2 - (intOf s4).toNat)
  case atStart => exact ⟨0, 0, none, 0, [], Nat.zero_le _, rfl, rfl, Lib.hid (RO.nil_ (Below.refl _ _)), Lib.hid Hf0.out.symm⟩
  case round =>
    obtain ⟨s, n, Ao, co, L, hs, rfl, rfl, HO, HL⟩ := hrel
    by_cases hlt : s < 2
    · have hsel : ∃ (Hs : Option Addr) (ks ds : Nat) (hs : List Hk) (t0 t1 : Bool), (∀ w', Below w.heap.size w w' → w'.cell? ⟨gh, s, none⟩ = some (.slice Hs ks ds) ∧ gh < w'.heap.size) ∧ Sl w 4 Hs ks (hks hs) ∧ ks ≤ 10000 ∧ ((s : Int) == 0) = t0 ∧ ((s : Int) == 1) = t1 ∧ full (s + 1) = full s ++ hs.map (mkRg t0 t1) := by
        have hc : ∀ (i : Nat) (w' : World), Below w.heap.size w w' → w'.cell? ⟨gh, i, none⟩ = (#[.slice H0 k0 d0, .slice H1 k1 d1] : Array Value)[i]? ∧ gh < w'.heap.size := fun i w' hb => ⟨(HG.out.step hb).cell i, (HG.out.step hb).lt⟩
        obtain rfl | rfl : s = 0 ∨ s = 1 := by omega
        · exact ⟨H0, k0, d0, hs0, true, false, fun w' hb => hc 0 w' hb, HH0.out, hk0, rfl, rfl, Hf1.out⟩
        · exact ⟨H1, k1, d1, hs1, false, true, fun w' hb => hc 1 w' hb, HH1.out, hk1, rfl, rfl, Hf2.out⟩
      obtain ⟨Hs, ks, ds, hs', t0, t1, hcell, hSl, hks', hb0, hb1, hfs⟩ := hsel
      have Hcell := Lib.hid hcell
      have HSl := Lib.hid hSl
      have Hfs := Lib.hid hfs
      have Hb0 := Lib.hid hb0
      have Hb1 := Lib.hid hb1
      have Hlen := Lib.hid (hks_count hSl)
      have dsl : decide ((s : Int) < 2) = true := by simp; omega
      clear hcell hSl hfs hb0 hb1
      go_wp2
      go_loopw [3, 5] (fun s3 s5 wr => ∃ (i n : Nat) (Ao : Option Addr) (co : Nat) (L : List (Nat × Rg)), i ≤ ks ∧ s5 = .int .i64 i ∧ s3 = .slice Ao n co ∧ Hid (RO w wr Ao n co L) ∧ Hid (L.map (·.2) = full s ++ (hs'.take i).map (mkRg t0 t1))) (fun _ s5 _ => ks - (intOf s5).toNat)
      case atStart => exact ⟨0, n, Ao, co, L, Nat.zero_le _, rfl, rfl, HO, Lib.hid (by rw [HL.out]; simp)⟩
      case round =>
        clear HO HL
        obtain ⟨i, n, Ao, co, L, hi, rfl, rfl, HO, HL⟩ := hrel
        have hcc := Hcell.out wr HO.out.own.2
        obtain ⟨c1, z1⟩ := hcc
        by_cases hlt2 : i < ks
        · obtain ⟨b, off, x, rfl, hb, hx, x0, x1, x2, x3⟩ := (HSl.out.below HO.out.own.2).hunk hlt2
          have hn : n ≤ 30000 := by
            have e1 := congrArg List.length HL.out
            have e2 := HO.out.len
            have e3 := Hfl.out s
            simp only [List.length_map, List.length_append, List.length_take] at e1
            omega
          have hb0 := Hb0.out
          have hb1 := Hb1.out
          have q1 : n + 1 ≤ maxLen := by simp only [maxLen]; omega
          have q2 : (n + 1) * 40 ≤ 140737488355328 := by omega
          have Hx := Lib.hid hx
          have HOd := Lib.hid (HO.out.step (Below.refl _ wr).drew)
          clear hx
          go_wp2
          have neG : (Value.slice Ao n co).ownBlock ≠ some gh := fun e => by have h1 := (HO.out.own.1.lt gh e).1; have h2 := HG.out.lt; omega
          have neB : (Value.slice Ao n co).ownBlock ≠ some b := fun e => by have h1 := (HO.out.own.1.lt b e).1; have h2 := HSl.out.lt_ b off (by omega) rfl; omega
          have sI0 : (0 : Int) ≤ (s : Int) := Int.natCast_nonneg _
          have sI1 : (s : Int) < 2 := by omega
          have iI0 : (0 : Int) ≤ (i : Int) := Int.natCast_nonneg _
          have iI1 : (i : Int) < (ks : Int) := by omega
          go_region_held3 (fun w' => w'.cell? ⟨gh, s, none⟩ = some (.slice (some ⟨b, off, none⟩) ks ds) ∧ w'.cell? ⟨b, off + i * 4, none⟩ = some (I x.a0) ∧ w'.cell? ⟨b, off + i * 4 + 1, none⟩ = some (I x.a1))
            (first
              | go_keep
              | (go_split_ands
                 refine ⟨?_, ?_, ?_⟩
                 · (rw [hg'.cell_far _ (by simp; omega) (Ne.symm neG)]; assumption)
                 · (rw [hg'.cell_far _ (by simp; omega) (Ne.symm neB)]; assumption)
                 · (rw [hg'.cell_far _ (by simp; omega) (Ne.symm neB)]; assumption)))
            ((refine step_append_sl _ (by rfl) (.tmp 26) (.tmp 49) _ (by rfl) w 81 i0 _ 3 40 Tryd.underlying77 hi0 hi1 hi2 hi3 rfl (by omega) Ao n co (rqs L) (by rfl) ((HO.out.own.alloc _).alloc _).drew (some ⟨wr.heap.size + 1, 0, none⟩) 1 _ (rqs [(wr.heap.size, mkRg t0 t1 x)]) (by rfl) (sl_rq2 wr _ _ (wr.heap.size, mkRg t0 t1 x)).drew (one_rqs _) q1 q2 ?_; intro A' c' w' hO' hg' hat'))
          all_goals
            have hmore := HO.out.more (w1 := ((wr.alloc (.cells #[.bool t0, .bool t1] 4)).alloc (.cells #[I x.a0, I x.a1, .slice (some ⟨wr.heap.size, 0, none⟩) 2 2] 81)).drew) (g := wr.heap.size) (r := mkRg t0 t1 x) (balloc (balloc (Below.refl _ _) _) _).drew ((Blk.new wr 4 #[.bool t0, .bool t1]).alloc _).drew hO' hg'
            have HM := Lib.hid hmore
            clear hO' hg' hat' hmore
            go_wp2
            go_roundw
            case rel =>
             exact ⟨i + 1, n + 1, A', c', _, by omega, by go_num, rfl, HM, Lib.hid (by rw [List.map_append, HL.out, List.take_add_one, Hx.out]; simp)⟩
            case measure => simp [intOf]; omega
        · obtain rfl : i = ks := by omega
          have hall : hs'.take i = hs' := List.take_of_length_le (by rw [Hlen.out]; exact Nat.le_refl _)
          rw [hall, ← Hfs.out] at HL
          clear hall
          go_wp2
          go_roundw
          case rel => exact ⟨s + 1, n, Ao, co, L, by omega, by go_num, rfl, HO, HL⟩
          case measure => simp [intOf]; omega
    · obtain rfl : s = 2 := by omega
      rw [Hf2'.out] at HL
      have hPL : Parts C (L.map (·.2)) := by rw [HL.out]; exact HP.out
      have hn : n ≤ 20000 := by
        have e1 := congrArg List.length HL.out
        have e2 := HO.out.len
        have e3 := Hfl.out 2
        rw [Hf2'.out] at e3
        simp only [List.length_map] at e1
        omega
      have HQ := Lib.hid HO.out.rq
      have HB := Lib.hid HO.out.own.2
      have HPL := Lib.hid hPL
      clear HO HL hPL HP HH0 HH1 HG Hf0 Hf1 Hf2 Hf2' Hfl Hl0 Hl1
      go_wp2
      go_loopg [3] n (fun gn s3 wr => ∃ (Ao : Option Addr) (co : Nat) (L : List (Nat × Rg)), s3 = .slice Ao gn co ∧ Hid (RQ wr Ao gn L) ∧ Hid (Below w.heap.size w wr) ∧ Hid (Parts C (L.map (·.2))) ∧ gn ≤ 20000)
      case atStart => exact ⟨Ao, co, L, rfl, HQ, HB, HPL, hn⟩
      case round =>
        clear HQ HB HPL hn
        obtain ⟨Ao, co, L, rfl, HQ, HB, HPL, hn⟩ := hrel
        have HlenL := Lib.hid HQ.out.len
        go_wp2_with fail
        refine (pair_any Ao gk co L _ HQ.out (by omega)).mono ?_
        rintro e w1 ⟨hways, hb1⟩
        have HB1 := Lib.hid (bstep HB.out hb1)
        have HQ1 := Lib.hid (HQ.out.step hb1)
        clear hb1 HB HQ
        rcases hways with ⟨i, k, a, b, rfl, hki, ha, hb, ht⟩ | ⟨rfl, hloose⟩
        · have hik : i < gk := by have := (List.getElem?_eq_some_iff.1 ha).1; have := HlenL.out; omega
          have hkk : k < gk := by omega
          obtain ⟨bb, off, a', rfl, hbb, ha', a0, a1, a2⟩ := HQ1.out.at_ hik
          obtain rfl : a' = a := Option.some.inj (ha'.symm.trans ha)
          obtain ⟨bb', off', b', e', _, hb', b0, b1, b2⟩ := HQ1.out.at_ hkk
          obtain rfl : b' = b := Option.some.inj (hb'.symm.trans hb)
          cases e'
          obtain ⟨ga, alo, ahi, at0, at1⟩ := a'
          obtain ⟨gb, blo, bhi, bt0, bt1⟩ := b'
          have Hma := Lib.hid (HQ1.out.bl _ (List.mem_of_getElem? ha))
          have Hmb := Lib.hid (HQ1.out.bl _ (List.mem_of_getElem? hb))
          have Ha := Lib.hid ha
          have Hb := Lib.hid hb
          have Ht := Lib.hid ht
          have Hki := Lib.hid hki
          simp only at a0 a1 a2 b0 b1 b2
          clear ha ha' hb hb' ht hki
          go_wp2
          have bx := balloc (balloc (Below.refl _ w1) (.cells #[I alo, I ahi, .slice (some ⟨ga, 0, none⟩) 2 2] 81)) (.cells #[I blo, I bhi, .slice (some ⟨gb, 0, none⟩) 2 2] 81)
          have hA := (Blk.new w1 81 #[I alo, I ahi, .slice (some ⟨ga, 0, none⟩) 2 2]).alloc (.cells #[I blo, I bhi, .slice (some ⟨gb, 0, none⟩) 2 2] 81)
          have hB := Blk.new (w1.alloc (.cells #[I alo, I ahi, .slice (some ⟨ga, 0, none⟩) 2 2] 81)) 81 #[I blo, I bhi, .slice (some ⟨gb, 0, none⟩) 2 2]
          rw [World.size_alloc] at hB
          have hma := Hma.out.step bx
          have hmb := Hmb.out.step bx
          generalize (w1.alloc (.cells #[I alo, I ahi, .slice (some ⟨ga, 0, none⟩) 2 2] 81)).alloc (.cells #[I blo, I bhi, .slice (some ⟨gb, 0, none⟩) 2 2] 81) = w2 at *
          have HQ2 := Lib.hid (HQ1.out.step bx)
          have HB2 := Lib.hid (bstep HB1.out bx)
          generalize w1.heap.size = gx at *
          have cA := hA.cell
          have cB := hB.cell
          have cma := hma.cell
          have cmb := hmb.cell
          have zA := hA.lt
          have zB := hB.lt
          have zma := hma.lt
          have zmb := hmb.lt
          clear hA hB hma hmb bx HB1 HQ1 Hma Hmb a0 a1 a2 b0 b1 b2
          have HT := Lib.hid (show Ten w2 gx ga gb alo ahi blo bhi at0 at1 bt0 bt1 from ⟨cA 0, cA 1, cA 2, cB 0, cB 1, cB 2, cma 0, cma 1, cmb 0, cmb 1⟩)
          have hz : gx + 1 < w2.heap.size ∧ ga < w2.heap.size ∧ gb < w2.heap.size := ⟨zB, zma, zmb⟩
          clear cA cB cma cmb
          refine wp_region_guards (by kernel_rfl) 33 (by kernel_rfl) ?_ (joinPhi w2.heap.size gx ga gb alo ahi blo bhi at0 at1 bt0 bt1) joinPhi_mono (fun i o hi ho a w hb hs hm => ?_) (fun o ho a w hb hs hm => ?_)
          · exact dst_lt (n := 125) (by kernel_rfl)
          · exact match i, hi, ho with
            | 0, _, ho => by
                cases ho
                rw [if_pos (wanted_none _ rfl)]
                refine wp_value (st_field rfl ((hs.keeps (by kernel_rfl)).trans rfl) (by kernel_rfl)) ⟨_, rfl, rfl, Below.refl _ _⟩
            | 1, _, ho => by
                cases ho
                rw [if_pos (wanted_none _ rfl)]
                have hc := (HT.out.keep hz hb).1; refine wp_value (st_load rfl (hm.get 0 68 (by kernel_rfl)) (by go_simp)) ⟨_, rfl, rfl, Below.refl _ _⟩
            | 2, _, ho => by
                cases ho
                rw [if_pos (wanted_none _ rfl)]
                refine wp_value (st_field rfl ((hs.keeps (by kernel_rfl)).trans rfl) (by kernel_rfl)) ⟨_, rfl, rfl, Below.refl _ _⟩
            | 3, _, ho => by
                cases ho
                rw [if_pos (wanted_none _ rfl)]
                have hc := (HT.out.keep hz hb).2.2.2.1; refine wp_value (st_load rfl (hm.get 2 70 (by kernel_rfl)) (by go_simp)) ⟨_, rfl, rfl, Below.refl _ _⟩
            | 4, _, ho => by
                cases ho
                rw [if_pos (wanted_none _ rfl)]
                have h1 := eval_getD (hm.get 1 69 (by kernel_rfl)); have h2 := eval_getD (hm.get 3 71 (by kernel_rfl)); unfold Oper.wp; simp only [execOp]; go_simp; exact ⟨_, rfl, by simp only [joinPhi]; first | rfl | (congr 1; omega), Below.refl _ _⟩
            | 5, _, ho => by
                cases ho
                rw [if_pos (wanted_none _ rfl)]
                refine wp_value (st_field rfl ((hs.keeps (by kernel_rfl)).trans rfl) (by kernel_rfl)) ⟨_, rfl, rfl, Below.refl _ _⟩
            | 6, _, ho => by
                cases ho
                rw [if_pos (wanted_none _ rfl)]
                have hc := (HT.out.keep hz hb).2.1; refine wp_value (st_load rfl (hm.get 5 73 (by kernel_rfl)) (by go_simp)) ⟨_, rfl, rfl, Below.refl _ _⟩
            | 7, _, ho => by
                cases ho
                rw [if_pos (wanted_none _ rfl)]
                refine wp_value (st_field rfl ((hs.keeps (by kernel_rfl)).trans rfl) (by kernel_rfl)) ⟨_, rfl, rfl, Below.refl _ _⟩
            | 8, _, ho => by
                cases ho
                rw [if_pos (wanted_none _ rfl)]
                have hc := (HT.out.keep hz hb).2.2.2.2.1; refine wp_value (st_load rfl (hm.get 7 75 (by kernel_rfl)) (by go_simp)) ⟨_, rfl, rfl, Below.refl _ _⟩
            | 9, _, ho => by
                cases ho
                rw [if_pos (wanted_none _ rfl)]
                have h1 := eval_getD (hm.get 6 74 (by kernel_rfl)); have h2 := eval_getD (hm.get 8 76 (by kernel_rfl)); unfold Oper.wp; simp only [execOp]; go_simp; exact ⟨_, rfl, by simp only [joinPhi]; first | rfl | (congr 1; omega), Below.refl _ _⟩
            | 10, _, ho => by
                cases ho
                rw [if_pos (wanted_none _ rfl)]
                refine wp_value (st_field rfl ((hs.keeps (by kernel_rfl)).trans rfl) (by kernel_rfl)) ⟨_, rfl, rfl, Below.refl _ _⟩
            | 11, _, ho => by
                cases ho
                rw [if_pos (wanted_none _ rfl)]
                have hc := (HT.out.keep hz hb).2.2.1; refine wp_value (st_load rfl (hm.get 10 78 (by kernel_rfl)) (by go_simp)) ⟨_, rfl, rfl, Below.refl _ _⟩
            | 12, _, ho => by
                cases ho
                rw [if_pos (wanted_none _ rfl)]
                refine wp_value (st_index rfl (hm.get 11 79 (by kernel_rfl)) rfl (by kernel_rfl)) ⟨_, rfl, rfl, Below.refl _ _⟩
            | 13, _, ho => by
                cases ho
                rw [if_pos (wanted_none _ rfl)]
                have hc := (HT.out.keep hz hb).2.2.2.2.2.2.1; refine wp_value (st_load rfl (hm.get 12 80 (by kernel_rfl)) (by go_simp)) ⟨_, rfl, rfl, Below.refl _ _⟩
            | 14, _, ho => by
                cases ho
                rw [if_pos (wanted_none _ rfl)]
                refine wp_value (st_move rfl (hm.get 13 81 (by kernel_rfl))) ⟨_, rfl, rfl, Below.refl _ _⟩
            | 15, _, ho => by
                cases ho
                generalize hW : Region.wanted _ _ = W
                obtain rfl : W = (at0 == false) := hW.symm.trans (wanted_of rfl rfl rfl (show a.eval (.tmp 82) = .bool at0 from (hm.get 14 82 (by kernel_rfl))))
                clear hW
                cases hf : at0 with
                | true => exact fun h => by cases h
                | false =>
                  rw [hf] at hm
                  refine wp_value (st_field rfl ((hs.keeps (by kernel_rfl)).trans rfl) (by kernel_rfl)) ⟨_, rfl, fun _ => rfl, Below.refl _ _⟩
            | 16, _, ho => by
                cases ho
                generalize hW : Region.wanted _ _ = W
                obtain rfl : W = (at0 == false) := hW.symm.trans (wanted_of rfl rfl rfl (show a.eval (.tmp 82) = .bool at0 from (hm.get 14 82 (by kernel_rfl))))
                clear hW
                cases hf : at0 with
                | true => exact fun h => by cases h
                | false =>
                  rw [hf] at hm
                  have hc := (HT.out.keep hz hb).2.2.2.2.2.1; refine wp_value (st_load rfl ((hm.get 15 83 (by kernel_rfl)) rfl) (by go_simp)) ⟨_, rfl, fun _ => rfl, Below.refl _ _⟩
            | 17, _, ho => by
                cases ho
                generalize hW : Region.wanted _ _ = W
                obtain rfl : W = (at0 == false) := hW.symm.trans (wanted_of rfl rfl rfl (show a.eval (.tmp 82) = .bool at0 from (hm.get 14 82 (by kernel_rfl))))
                clear hW
                cases hf : at0 with
                | true => exact fun h => by cases h
                | false =>
                  rw [hf] at hm
                  refine wp_value (st_index rfl ((hm.get 16 84 (by kernel_rfl)) rfl) rfl (by kernel_rfl)) ⟨_, rfl, fun _ => rfl, Below.refl _ _⟩
            | 18, _, ho => by
                cases ho
                generalize hW : Region.wanted _ _ = W
                obtain rfl : W = (at0 == false) := hW.symm.trans (wanted_of rfl rfl rfl (show a.eval (.tmp 82) = .bool at0 from (hm.get 14 82 (by kernel_rfl))))
                clear hW
                cases hf : at0 with
                | true => exact fun h => by cases h
                | false =>
                  rw [hf] at hm
                  have hc := (HT.out.keep hz hb).2.2.2.2.2.2.2.2.1; refine wp_value (st_load rfl ((hm.get 17 85 (by kernel_rfl)) rfl) (by go_simp)) ⟨_, rfl, fun _ => rfl, Below.refl _ _⟩
            | 19, _, ho => by
                cases ho
                rw [if_pos (wanted_none _ rfl)]
                have h1 := eval_getD (hm.get 14 82 (by kernel_rfl))
                have h2 := (hm.get 18 86 (by kernel_rfl))
                cases at0 with
                | true =>
                  unfold Oper.wp; simp only [execOp]; go_simp
                  exact ⟨_, rfl, rfl, Below.refl _ _⟩
                | false =>
                  have h3 := eval_getD (h2 rfl)
                  unfold Oper.wp; simp only [execOp]; go_simp
                  exact ⟨_, rfl, rfl, Below.refl _ _⟩
            | 20, _, ho => by
                cases ho
                rw [if_pos (wanted_none _ rfl)]
                refine wp_value (st_field rfl ((hs.keeps (by kernel_rfl)).trans rfl) (by kernel_rfl)) ⟨_, rfl, rfl, Below.refl _ _⟩
            | 21, _, ho => by
                cases ho
                rw [if_pos (wanted_none _ rfl)]
                have hc := (HT.out.keep hz hb).2.2.1; refine wp_value (st_load rfl (hm.get 20 88 (by kernel_rfl)) (by go_simp)) ⟨_, rfl, rfl, Below.refl _ _⟩
            | 22, _, ho => by
                cases ho
                rw [if_pos (wanted_none _ rfl)]
                refine wp_value (st_index rfl (hm.get 21 89 (by kernel_rfl)) rfl (by kernel_rfl)) ⟨_, rfl, rfl, Below.refl _ _⟩
            | 23, _, ho => by
                cases ho
                rw [if_pos (wanted_none _ rfl)]
                have hc := (HT.out.keep hz hb).2.2.2.2.2.2.2.1; refine wp_value (st_load rfl (hm.get 22 90 (by kernel_rfl)) (by go_simp)) ⟨_, rfl, rfl, Below.refl _ _⟩
            | 24, _, ho => by
                cases ho
                rw [if_pos (wanted_none _ rfl)]
                refine wp_value (st_move rfl (hm.get 23 91 (by kernel_rfl))) ⟨_, rfl, rfl, Below.refl _ _⟩
            | 25, _, ho => by
                cases ho
                generalize hW : Region.wanted _ _ = W
                obtain rfl : W = (at1 == false) := hW.symm.trans (wanted_of rfl rfl rfl (show a.eval (.tmp 92) = .bool at1 from (hm.get 24 92 (by kernel_rfl))))
                clear hW
                cases hf : at1 with
                | true => exact fun h => by cases h
                | false =>
                  rw [hf] at hm
                  refine wp_value (st_field rfl ((hs.keeps (by kernel_rfl)).trans rfl) (by kernel_rfl)) ⟨_, rfl, fun _ => rfl, Below.refl _ _⟩
            | 26, _, ho => by
                cases ho
                generalize hW : Region.wanted _ _ = W
                obtain rfl : W = (at1 == false) := hW.symm.trans (wanted_of rfl rfl rfl (show a.eval (.tmp 92) = .bool at1 from (hm.get 24 92 (by kernel_rfl))))
                clear hW
                cases hf : at1 with
                | true => exact fun h => by cases h
                | false =>
                  rw [hf] at hm
                  have hc := (HT.out.keep hz hb).2.2.2.2.2.1; refine wp_value (st_load rfl ((hm.get 25 93 (by kernel_rfl)) rfl) (by go_simp)) ⟨_, rfl, fun _ => rfl, Below.refl _ _⟩
            | 27, _, ho => by
                cases ho
                generalize hW : Region.wanted _ _ = W
                obtain rfl : W = (at1 == false) := hW.symm.trans (wanted_of rfl rfl rfl (show a.eval (.tmp 92) = .bool at1 from (hm.get 24 92 (by kernel_rfl))))
                clear hW
                cases hf : at1 with
                | true => exact fun h => by cases h
                | false =>
                  rw [hf] at hm
                  refine wp_value (st_index rfl ((hm.get 26 94 (by kernel_rfl)) rfl) rfl (by kernel_rfl)) ⟨_, rfl, fun _ => rfl, Below.refl _ _⟩
            | 28, _, ho => by
                cases ho
                generalize hW : Region.wanted _ _ = W
                obtain rfl : W = (at1 == false) := hW.symm.trans (wanted_of rfl rfl rfl (show a.eval (.tmp 92) = .bool at1 from (hm.get 24 92 (by kernel_rfl))))
                clear hW
                cases hf : at1 with
                | true => exact fun h => by cases h
                | false =>
                  rw [hf] at hm
                  have hc := (HT.out.keep hz hb).2.2.2.2.2.2.2.2.2; refine wp_value (st_load rfl ((hm.get 27 95 (by kernel_rfl)) rfl) (by go_simp)) ⟨_, rfl, fun _ => rfl, Below.refl _ _⟩
            | 29, _, ho => by
                cases ho
                rw [if_pos (wanted_none _ rfl)]
                have h1 := eval_getD (hm.get 24 92 (by kernel_rfl))
                have h2 := (hm.get 28 96 (by kernel_rfl))
                cases at1 with
                | true =>
                  unfold Oper.wp; simp only [execOp]; go_simp
                  exact ⟨_, rfl, rfl, Below.refl _ _⟩
                | false =>
                  have h3 := eval_getD (h2 rfl)
                  unfold Oper.wp; simp only [execOp]; go_simp
                  exact ⟨_, rfl, rfl, Below.refl _ _⟩
            | 30, _, ho => by
                cases ho
                rw [if_pos (wanted_none _ rfl)]
                have e0 : a.eval (.tmp 87) = .bool (at0 || bt0) := (hm.get 19 87 (by kernel_rfl))
                have e1 : a.eval (.tmp 97) = .bool (at1 || bt1) := (hm.get 29 97 (by kernel_rfl))
                have hbb := balloc (Below.refl _ w) (.cells #[.bool (at0 || bt0), .bool (at1 || bt1)] 4)
                exact wp_value (w' := w.alloc (.cells #[.bool (at0 || bt0), .bool (at1 || bt1)] 4)) (v := .slice (some ⟨w.heap.size, 0, none⟩) 2 2) (st_build (q := #[(0, .bool (at0 || bt0)), (1, .bool (at1 || bt1))]) rfl (by simp only [List.map_toArray, List.map_cons, List.map_nil, e0, e1]) (by go_simp)) ⟨_, rfl, ⟨_, rfl, Blk.new w 4 _⟩, hbb⟩
            | 31, _, ho => by
                cases ho
                rw [if_pos (wanted_none _ rfl)]
                have h0 := eval_getD (hm.get 4 72 (by kernel_rfl)); have h1 := eval_getD (hm.get 9 77 (by kernel_rfl))
                obtain ⟨g, e2, hB⟩ := (hm.get 30 98 (by kernel_rfl))
                have h2 := eval_getD e2
                unfold Oper.wp; simp only [execOp]; go_simp
                exact ⟨_, rfl, ⟨g, rfl, hB⟩, Below.refl _ _⟩
            | 32, _, ho => by
                cases ho
                rw [if_pos (wanted_none _ rfl)]
                unfold Oper.wp; simp only [execOp]; go_simp
                exact ⟨_, rfl, ⟨_, rfl, hb.size, Blk.new w 81 _⟩, balloc (Below.refl _ w) _⟩
            | (n + 33), hi, _ => absurd hi (by omega)
          · cases ho
            obtain ⟨g, e1, hBs⟩ := hm.get 31 99 (by kernel_rfl)
            obtain ⟨gc, e2, hgc, hBr⟩ := hm.get 32 10 (by kernel_rfl)
            have rB := hBr.cell
            have fB := hBr.frozen
            have zBr := hBr.lt
            refine wp_skip (w' := ((w.setCell ⟨gc, 0, none⟩ (I (min alo blo : Nat))).setCell ⟨gc, 1, none⟩ (I (max ahi bhi : Nat))).setCell ⟨gc, 2, none⟩ (.slice (some ⟨g, 0, none⟩) 2 2)) (st_store rfl e2 e1 (by go_simp)) ?_
            have hgne : g ≠ gc := Blk.apart hBs hBr (by decide)
            have hR3 := ((hBr.set_ 0 (I (min alo blo : Nat))).set_ 1 (I (max ahi bhi : Nat))).set_ 2 (.slice (some ⟨g, 0, none⟩) 2 2)
            have hS3 := ((hBs.far (p := ⟨gc, 0, none⟩) hgne (I (min alo blo : Nat))).far (p := ⟨gc, 1, none⟩) hgne (I (max ahi bhi : Nat))).far (p := ⟨gc, 2, none⟩) hgne (.slice (some ⟨g, 0, none⟩) 2 2)
            have hB3 := ((hb.setCell (p := ⟨gc, 0, none⟩) hgc (I (min alo blo : Nat))).setCell (p := ⟨gc, 1, none⟩) hgc (I (max ahi bhi : Nat))).setCell (p := ⟨gc, 2, none⟩) hgc (.slice (some ⟨g, 0, none⟩) 2 2)
            generalize ((w.setCell ⟨gc, 0, none⟩ (I (min alo blo : Nat))).setCell ⟨gc, 1, none⟩ (I (max ahi bhi : Nat))).setCell ⟨gc, 2, none⟩ (.slice (some ⟨g, 0, none⟩) 2 2) = w3 at *
            have HQ3 := Lib.hid (HQ2.out.step hB3)
            have HB3 := Lib.hid (bstep HB2.out hB3)
            have HR3 := Lib.hid (show Blk w3 gc 81 #[I (min alo blo : Nat), I (max ahi bhi : Nat), .slice (some ⟨g, 0, none⟩) 2 2] from hR3)
            have HS3 := Lib.hid hS3
            have hfr := hs.frame [10, 68, 69, 70, 71, 72, 73, 74, 75, 76, 77, 78, 79, 80, 81, 82, 83, 84, 85, 86, 87, 88, 89, 90, 91, 92, 93, 94, 95, 96, 97, 98, 99] (by kernel_rfl)
            show Exit.then _ _ _ a w3
            rw [hfr]
            simp only [List.foldl_cons, List.foldl_nil, e2]
            clear hfr hs hm e1 e2 hBs hBr rB fB zBr hgne hR3 hS3 hB3 hb HQ2 HB2 HT hz hgc
            generalize a.eval (.tmp 68) = u68
            generalize a.eval (.tmp 69) = u69
            generalize a.eval (.tmp 70) = u70
            generalize a.eval (.tmp 71) = u71
            generalize a.eval (.tmp 72) = u72
            generalize a.eval (.tmp 73) = u73
            generalize a.eval (.tmp 74) = u74
            generalize a.eval (.tmp 75) = u75
            generalize a.eval (.tmp 76) = u76
            generalize a.eval (.tmp 77) = u77
            generalize a.eval (.tmp 78) = u78
            generalize a.eval (.tmp 79) = u79
            generalize a.eval (.tmp 80) = u80
            generalize a.eval (.tmp 81) = u81
            generalize a.eval (.tmp 82) = u82
            generalize a.eval (.tmp 83) = u83
            generalize a.eval (.tmp 84) = u84
            generalize a.eval (.tmp 85) = u85
            generalize a.eval (.tmp 86) = u86
            generalize a.eval (.tmp 87) = u87
            generalize a.eval (.tmp 88) = u88
            generalize a.eval (.tmp 89) = u89
            generalize a.eval (.tmp 90) = u90
            generalize a.eval (.tmp 91) = u91
            generalize a.eval (.tmp 92) = u92
            generalize a.eval (.tmp 93) = u93
            generalize a.eval (.tmp 94) = u94
            generalize a.eval (.tmp 95) = u95
            generalize a.eval (.tmp 96) = u96
            generalize a.eval (.tmp 97) = u97
            generalize a.eval (.tmp 98) = u98
            generalize a.eval (.tmp 99) = u99
            clear a
            have hki := Hki.out
            have htch : joinRg ⟨alo, ahi, at0, at1⟩ ⟨blo, bhi, bt0, bt1⟩ = ⟨min alo blo, max ahi bhi, at0 || bt0, at1 || bt1⟩ := rfl
            have Htch := Lib.hid htch
            clear htch
            go_wp2
            go_loopw [11, 12] (fun s11 s12 wr => ∃ (j m : Nat) (An : Option Addr) (cn : Nat), j ≤ gk ∧ s12 = .int .i64 j ∧ s11 = .slice An m cn ∧ m ≤ j ∧ Hid (RO w3 wr An m cn (skip2 i k 0 (L.take j)))) (fun _ s12 _ => gk - (intOf s12).toNat)
            case atStart => exact ⟨0, 0, none, 0, Nat.zero_le _, rfl, rfl, Nat.le_refl _, Lib.hid (by rw [List.take_zero]; exact RO.nil_ (Below.refl _ _))⟩
            case round =>
              obtain ⟨j, m, An, cn, hj, rfl, rfl, hmj, HO⟩ := hrel
              by_cases hlt : j < gk
              · have hQr := HQ3.out.step HO.out.own.2
                obtain ⟨b9, off9, y, e9, hb9, hy, y0, y1, y2⟩ := hQr.at_ hlt
                cases e9
                have Hbl := Lib.hid (hQr.bl y (List.mem_of_getElem? hy))
                have hsn : skip2 i k 0 (L.take (j + 1)) = skip2 i k 0 (L.take j) ++ if j = i ∨ j = k then [] else [y] := by
                  have hlj : (L.take j).length = j := by rw [List.length_take, HlenL.out]; omega
                  rw [List.take_add_one, hy, Option.toList_some, BlendLaw.skip2_snoc, hlj, Nat.zero_add]
                have Hsn := Lib.hid hsn
                clear hy hsn hQr
                by_cases hji : j = i
                · have d1 : ((j : Int) != (i : Int)) = false := by simp; omega
                  rw [if_pos (Or.inl hji), List.append_nil] at Hsn
                  clear hji
                  go_wp2
                  go_roundw
                  case rel => exact ⟨j + 1, m, An, cn, by omega, by go_num, rfl, by omega, Lib.hid (by rw [Hsn.out]; exact HO.out)⟩
                  case measure => simp [intOf]; omega
                · have d1 : ((j : Int) != (i : Int)) = true := by simp; omega
                  by_cases hjk : j = k
                  · have d2 : ((j : Int) != (k : Int)) = false := by simp; omega
                    rw [if_pos (Or.inr hjk), List.append_nil] at Hsn
                    clear hji hjk
                    go_wp2
                    go_roundw
                    case rel => exact ⟨j + 1, m, An, cn, by omega, by go_num, rfl, by omega, Lib.hid (by rw [Hsn.out]; exact HO.out)⟩
                    case measure => simp [intOf]; omega
                  · have d2 : ((j : Int) != (k : Int)) = true := by simp; omega
                    rw [if_neg (by simp [hji, hjk])] at Hsn
                    have q1 : m + 1 ≤ maxLen := by simp only [maxLen]; omega
                    have q2 : (m + 1) * 40 ≤ 140737488355328 := by omega
                    clear hji hjk
                    go_wp2_with (at_builtin; refine wpList_append_sl _ rfl (.tmp 114) (.tmp 119) _ rfl w3 81 i0 _ 3 40 Tryd.underlying77 hi0 hi1 hi2 hi3 rfl (by omega) An m cn (rqs (skip2 i k 0 (L.take j))) rfl (HO.out.own.alloc _) (some ⟨wr.heap.size, 0, none⟩) 1 _ (rqs [y]) rfl (sl_rq wr _ y) (one_rqs _) q1 q2 ?_; intro A' c' w' hO' hg' hat')
                    have HM := Lib.hid (HO.out.more (w1 := wr.alloc (.cells #[I y.2.lo, I y.2.hi, .slice (some ⟨y.1, 0, none⟩) 2 2] 81)) (g := y.1) (r := y.2) (balloc (Below.refl _ _) _) (Hbl.out.alloc _) hO' hg')
                    clear hO' hg' hat'
                    go_roundw
                    case rel => exact ⟨j + 1, m + 1, A', c', by omega, by go_num, rfl, by omega, Lib.hid (by rw [Hsn.out]; exact HM.out)⟩
                    case measure => simp [intOf]; omega
              · obtain rfl : j = gk := by omega
                have hall : L.take j = L := List.take_of_length_le (by rw [HlenL.out]; exact Nat.le_refl _)
                rw [hall] at HO
                have hlen := BlendLaw.skip2_len (i := i) (k := k) 0 L
                rw [HO.out.len, HlenL.out, if_pos ⟨Nat.zero_le _, by omega⟩, if_pos ⟨Nat.zero_le _, by omega, by omega⟩] at hlen
                have hcell := (HR3.out.step HO.out.own.2).cell
                have hzc := (HR3.out.step HO.out.own.2).lt
                have q1 : m + 1 ≤ maxLen := by simp only [maxLen]; omega
                have q2 : (m + 1) * 40 ≤ 140737488355328 := by omega
                have Hlen2 := Lib.hid hlen
                clear hall hlen
                go_wp2_with (at_builtin; refine wpList_append_sl _ rfl (.tmp 121) (.tmp 123) _ rfl w3 81 i0 _ 3 40 Tryd.underlying77 hi0 hi1 hi2 hi3 rfl (by omega) An m cn (rqs (skip2 i k 0 L)) rfl (HO.out.own.alloc _) (some ⟨wr.heap.size, 0, none⟩) 1 _ (rqs [(g, joinRg ⟨alo, ahi, at0, at1⟩ ⟨blo, bhi, bt0, bt1⟩)]) rfl (sl_rq wr _ (g, joinRg ⟨alo, ahi, at0, at1⟩ ⟨blo, bhi, bt0, bt1⟩)) (one_rqs _) q1 q2 ?_; intro A' c' w' hO' hg' hat')
                have HM := Lib.hid (HO.out.more (w1 := wr.alloc (.cells #[I (min alo blo : Nat), I (max ahi bhi : Nat), .slice (some ⟨g, 0, none⟩) 2 2] 81)) (g := g) (r := joinRg ⟨alo, ahi, at0, at1⟩ ⟨blo, bhi, bt0, bt1⟩) (balloc (Below.refl _ _) _) ((HS3.out.step HO.out.own.2).alloc _) hO' hg')
                clear hO' hg' hat' hcell
                have hm1 : m + 1 = j - 1 := by have := Hlen2.out; omega
                rw [hm1] at HM
                have HP' := Lib.hid (show Parts C ((skip2 i k 0 L ++ [(g, joinRg ⟨alo, ahi, at0, at1⟩ ⟨blo, bhi, bt0, bt1⟩)]).map (·.2)) from by
                  have h := HPL.out.merged HC.out (i := i) (k := k) (a := ⟨alo, ahi, at0, at1⟩) (b := ⟨blo, bhi, bt0, bt1⟩) (by rw [List.getElem?_map, Ha.out]; rfl) (by rw [List.getElem?_map, Hb.out]; rfl) Ht.out
                  rw [skip2_map] at h
                  rw [List.map_append]
                  exact h)
                go_roundg (j - 1)
                case measure => omega
                case rel => exact ⟨A', c', _, by rw [hm1], Lib.hid HM.out.rq, Lib.hid (bstep HB3.out HM.out.own.2), HP', by omega⟩
        · go_wp2_with fail
          refine (sorted_any Ao gk co L _ HQ1.out (by omega)).mono ?_
          rintro e w2 ⟨A', c', rfl, hQ, hc, hb⟩
          have HQ2 := Lib.hid hQ
          have HB2 := Lib.hid (bstep HB1.out hb)
          have HLo := Lib.hid hloose
          clear hQ hb hloose
          go_wp2
          go_ret
          refine ⟨A', gk, c', sortP [] L, rfl, HQ2.out, ?_, HB2.out⟩
          rw [sortP_map]
          exact BlendLaw.sorted_eq HC.out HPL.out HLo.out
end Go.Proofs.YtpnogcblafmaiaaDoor

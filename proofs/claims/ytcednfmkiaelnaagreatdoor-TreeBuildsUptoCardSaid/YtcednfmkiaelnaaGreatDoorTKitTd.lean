/-
  Texts merged: TreeKeys, TreeMem, TreeSort, TreeCut. What each law says and asks stands at its head.
-/
import Derived.Test.YtcednfmkiaelnaaGreatDoorTDiskNames
import Derived.Test.YtcednfmkiaelnaaGreatDoorTKitTc
import Derived.Test.YtcednfmkiaelnaaGreatDoorTKitX
import Derived.Test.YtcednfmkiaelnaaGreatDoorTKitPr
import Derived.Test.YtcednfmkiaelnaaGreatDoorTMapList
import Derived.Test.YtcednfmkiaelnaaGreatDoorTKitTa
import Derived.Test.YtcednfmkiaelnaaGreatDoorShelf
import Derived.StillTactics
import Derived.Lib.CutLaws
namespace Go.Proofs.YtcednfmkiaelnaaGreatDoor
open Go.RowKit Go.Shelf
def dirsC : Coding Tryz.prog 9 28 (List UInt8) Hd where
 kv := S
 kl := Lit.string
 vv := Hd.v
 vd := Hd.d
 R := rdH
 good s := s.length ≤ maxLen
 keyed := Maps.string_keyed Tryz.underlying9
 key s h := diskC.key s h
 inj _ _ _ _ h := by injection h
 enc h := diskC.enc h
 dec v a ps h := diskC.dec v a ps h
theorem Tryz.zeroDirs (w : World) : (zeroValue 28).run Tryz.prog w = .ok (dirsC.vv ⟨none, 0, 0⟩) w := by kernel_rfl
theorem dirsC_full : dirsC.Full where
 invK v l h := diskC_full.invK v l h
 invV v y h := diskC_full.invV v y h
section
variable {m n r cnt : Nat} {l rest : List (List UInt8 × Hd)} {w w' : World}
theorem RangeL.walksD (h : RangeL dirsC w m r n l rest cnt) (hk : KeepsWalks w w') : RangeL dirsC w' m r n l rest cnt := by
 obtain ⟨D, left, h1, h2⟩ := h
 exact ⟨D, left, h1.of_walks hk, h2⟩
theorem RangeL.iterD (h : RangeL dirsC w m r n l rest cnt) : ∃ o : Obj, w.heap[r]? = some o ∧ o.isWalk = true := by
 obtain ⟨D, left, h1, _⟩ := h
 exact h1.iter_walk
end
set_option maxRecDepth 100000 in
set_option maxHeartbeats 2000000 in
theorem keys1D_in (N : Nat) (hN : 1 ≤ N) (lp Bm m n : Nat) (l : List (List UInt8 × Hd)) (J Jx : List (List UInt8) → World → Prop)
  (hY : ∀ pre x W, J pre W → pre.length < l.length → YieldAt Fence.wide (N - 1) Tryz.prog lp (encN x) W fun e W' =>
   (e = .returned (.bool true) ∧ J (pre ++ [x]) W' ∧ KeepsWalks W W') ∨ (e = .returned (.bool false) ∧ Jx (pre ++ [x]) W'))
  (W : World) (hJ : AbidesFrom W.heap.size J) (hm : W.cell? ⟨Bm, 0, none⟩ = some (.map (some m))) (hown : MapL dirsC W m n l) (h0 : J [] W) :
  CallsIn Fence.wide N Tryz.prog 112 #[.func (.yield lp) #[] #[], .pointer (some ⟨Bm, 0, none⟩)] W fun e W' => (∃ v, e = .returned v) ∧
   ((∃ xs, xs.Perm (l.map (·.1)) ∧ J xs W') ∨ (∃ pre, True ∧ Jx pre W')) := by
 have HY := Lib.hid hY
 have HJ := Lib.hid hJ
 clear hY hJ
 refine callsIn_of_wp Tryz.func112 rfl trivial ?_ rfl
 simp only [Tryz.ntmps112, List.size_toArray, List.length_cons, List.length_nil, Nat.reduceAdd, Nat.reduceSub, Array.replicate_succ, Array.replicate_zero, List.push_toArray, List.append_toArray, List.nil_append, List.cons_append]
 gi_wp2_with (first
  | (gi_at_range; refine wpListIn_rangeL _ rfl _ 133 rfl dirsC Tryz.underlying133 m n _ rfl hown ?_; intro w0 cnt0 hrg0 hg0 hs0)
  | gi_in)
 go_frame
 gi_loopw [3] (fun _ wr => ∃ (rest : List (List UInt8 × Hd)) (cnt : Nat) (ps : List (List UInt8)), RangeL dirsC wr m W.heap.size n l rest cnt ∧ Hid ((l.map (·.1)).Perm (ps ++ rest.map (·.1))) ∧ Hid (J ps wr))
  (fun _ wr => wr.rangeLeft m W.heap.size)
 case atStart =>
  exact ⟨_, _, [], hrg0, Lib.hid (List.Perm.refl _), Lib.hid (HJ.out [] W w0 none h0 hg0 (fun r e => by cases e))⟩
 case round =>
  obtain ⟨rest, cnt, ps, hrg, hC, hJs⟩ := hrel
  gi_wp2_with (first
   | (gi_at_next; refine wpListIn_nextL _ rfl _ rfl dirsC dirsC_full m W.heap.size n _ _ cnt rfl hrg ?_ ?_)
   | gi_in)
  ·rintro rfl
   gi_wp2
   go_end0
   exact ⟨⟨_, rfl⟩, .inl ⟨ps, by have := hC.out; simp at this; exact this.symm, hJs.out⟩⟩
  ·intro x v2 w2 cnt2 hp2 hgd2 hrg2 hlt hg2 hs2 hen0
   have hen : Sem.run Tryz.prog (Instr.entry (Value.pointer (some { block := W.heap.size, off := 0 }))) w2 = Result.ok (Value.tuple #[S x, dirsC.vv v2]) w2 := hen0
   have hJ2 : J ps w2 := HJ.out ps wr w2 (some W.heap.size) hJs.out hg2 (fun r e => by cases e; exact ⟨Nat.le_refl _, hrg.iterD⟩)
   have hperm := strike_perm hrg.keys hp2
   have hpe := hC.out.trans (((hperm.map (·.1))).append_left ps)
   have hlen : ps.length < l.length := by
    have := hpe.length_eq
    simp at this
    omega
   obtain ⟨fn, tmps, assign, body, hy, hR⟩ := HY.out ps x _ hJ2 hlen
   dsimp only [encN] at hy
   have Hpe := Lib.hid hpe
   have Hrg2 := Lib.hid hrg2
   clear hs2 hen0 hperm hpe hrg2 hlen hp2
   gi_wp2
   refine hR.mono ?_
   rintro e W3 (⟨rfl, hJ3, hk3⟩ | ⟨rfl, hJx3⟩)
   ·gi_wp2
    have hrg3 := Hrg2.out.walksD hk3
    go_roundw
    case rel => exact ⟨_, cnt2, ps ++ [x], hrg3, Lib.hid (by have := Hpe.out; simpa using this), Lib.hid hJ3⟩
    case measure => rw [hrg3.left_eq, hrg.left_eq]; exact hlt
   ·gi_wp2
    refine bodyPost_ret (results_none rfl _ _ _) rfl ?_
    exact ⟨⟨_, rfl⟩, .inr ⟨_, trivial, hJx3⟩⟩
set_option maxHeartbeats 1000000 in
theorem keysD_any (m : Nat) (w : World) :
  Calls Tryz.prog 65 #[.map (some m)] w fun e w' => e = .returned (.func (.func 112) #[] #[.pointer (some ⟨w.heap.size, 0, none⟩)]) ∧ w' = w.alloc (.cells #[.map (some m)] 133) := by
 go_enter Tryz.func65, Tryz.ntmps65
 go_wp2
 go_ret
 exact ⟨rfl, rfl⟩
theorem keysD_stops (N : Nat) (hN : 1 ≤ N) (Bm m n : Nat) (l : List (List UInt8 × Hd)) (w : World) (hm : w.cell? ⟨Bm, 0, none⟩ = some (.map (some m))) (hown : MapL dirsC w m n l) :
  SeqStopsK Fence.wide N Tryz.prog 112 #[.pointer (some ⟨Bm, 0, none⟩)] encN KeepsWalks (fun xs => xs.Perm (l.map (·.1))) (fun _ => True) l.length w := fun lp J Jx W hW hJ _ hY h0 =>
 keys1D_in N hN lp Bm m n l J Jx hY W hJ ((hW.cell (p := ⟨Bm, 0, none⟩) (World.block_lt_of_cell? _ _ hm)).trans hm) (hown.step hW) h0
attribute [local go_sem] Oper.semAt_some
set_option maxRecDepth 100000 in
set_option maxHeartbeats 4000000 in
theorem appendSeqD_any (w : World) (Bm m n : Nat) (l : List (List UInt8 × Hd)) (hl : l.length ≤ 1000000) (hm : w.cell? ⟨Bm, 0, none⟩ = some (.map (some m))) (hown : MapL dirsC w m n l) :
  Calls Tryz.prog 127 #[.slice none 0 0, .func (.func 112) #[] #[.pointer (some ⟨Bm, 0, none⟩)]] w fun e w' => ∃ (A : Option Addr) (c : Nat) (xs : List (List UInt8)), e = .returned (.slice A l.length c) ∧ xs.Perm (l.map (·.1)) ∧ Ow w w' 9 1 A l.length c (strs xs) := by
 refine (callsIn_wide (n := 6)).1 ?_
 refine callsIn_of_wp_marks Tryz.func127 rfl trivial ?_ rfl
 simp only [Tryz.ntmps127, List.size_toArray, List.length_cons, List.length_nil, Nat.reduceAdd, Nat.reduceSub, Array.replicate_succ, Array.replicate_zero, List.push_toArray, List.append_toArray, List.nil_append, List.cons_append]
 have HS := Lib.hid (keysD_stops 5 (by omega) Bm m n l w hm hown)
 clear hm hown
 gi_wp2
 have bS := Boxed.new w 45 (.slice none 0 0)
 obtain ⟨i0, hi0, hi1, hi2, hi3⟩ := info_parts Tryz.infoStr
 refine wpIn_rangeFunc_ownH rfl (by omega) (gf := 112) (lb := #[.pointer (some ⟨Bm, 0, none⟩)]) rfl trivial (enters_of Tryz.func112 (by kernel_rfl) rfl)
  HS.out (walksK_t) (walksK_b) (balloc (Below.refl _ w) _) (fun _ => rfl)
  (ApI w w.heap.size)
  (fun _ _ _ => False)
  (apI_own (by simp))
  (fun _ _ _ _ _ hs _ _ => hs)
  ⟨none, 0, bS, World.ownsRow_nil _ _ _ _, balloc (Below.refl _ w) _⟩
  (fun x a' _ => a' = { tmps := #[.slice none 0 0, .func (.func 112) #[] #[.pointer (some ⟨Bm, 0, none⟩)], .pointer (some ⟨w.heap.size, 0, none⟩), undef, .slice none 0 0, S x, .func (.func 112) #[] #[.pointer (some ⟨Bm, 0, none⟩)], S x, undef, undef, undef, undef, undef], defers := [] })
  ?hax ?assign ?body ?done ?stop
 case hax =>
  intro x a' _ W W' row h _ _
  exact h
 case assign =>
  rintro lp pre x W K ⟨A, c, h1, h2, h3⟩ hK
  gi_wp2
  refine hK _ _ (KeepsFrom.refl _ _) (KeepsWalks.refl _) ⟨A, c, h1, h2, h3⟩ rfl
 case body =>
  rintro lp pre x a' W hlp _ ⟨A, c, h1, h2, h3⟩ rfl hlt
  have hn : pre.length < l.length := hlt
  have q1 : pre.length + 1 ≤ maxLen := by simp only [maxLen]; omega
  have q2 : (pre.length + 1) * 16 ≤ 140737488355328 := by omega
  have rc := h1.cell
  have H1 := Lib.hid h1
  have H2 := Lib.hid h2
  have H3 := Lib.hid h3
  have hS1 := Lib.hid (sl_one W 9 (S x))
  have hb1 := (h1.alloc (.cells #[S x] 9))
  have HB1 := Lib.hid hb1
  clear h1 h2 h3 hb1
  gi_wp2_with (gi_at_builtin; refine wpListIn_append_at _ rfl (.tmp 8) (.tmp 10) 45 rfl w.heap.size 9 i0 _ 1 16 Tryz.underlying45 hi0 hi1 hi2 hi3 rfl (by decide) A pre.length c _ rfl (H2.out.alloc _) (Nat.le_trans H3.out.size (by simp)) _ 1 1 ([S x]) rfl hS1.out (one_one rfl) q1 q2 ?_; intro A3 c3 w6 hO3 hg3; have hO7 : Boxed w6 w.heap.size 45 (.slice A pre.length c) := HB1.out.kept hg3 (HB1.out.not_row (by decide) (H2.out.alloc _)); have ro7 := hO7.cell; have fo7 := hO7.frozen)
  have hkw : KeepsWalks W w6 := (KeepsWalks.alloc W _).trans (KeepsWalks.of_grownBy hg3 (own_noWalk (H2.out.alloc _)))
  have hbw : Below w.heap.size w w6 := (balloc H3.out _).grown hg3 (Nat.le_trans H3.out.size (by simp)) (fun k hk => (H2.out.lt k hk).1)
  have hkf : KeepsFrom (w.alloc (.cells #[.slice none 0 0] 45)).heap.size W (w6.setCell ⟨w.heap.size, 0, none⟩ (.slice A3 (pre.length + 1) c3)) :=
   (keepsFrom_below (balloc (Below.refl _ W) (.cells #[S x] 9))).trans (((KeepsOthers.of_grownBy hg3 (fun j o hj ho => by
    rcases H2.out.2 with ⟨hv, _⟩ | ⟨g, cap, cur, hv, _, hgb, _⟩
    ·rw [hv] at hj; simp [Value.ownBlock] at hj
    ·rw [hv] at hj
     have : g = j := by simpa [Value.ownBlock] using hj
     subst this
     have hh := (Below.heap_alloc W (.cells #[S x] 9) g (heap_lt hgb)).trans hgb
     rw [hh] at ho
     cases ho
     rfl)).from _).trans ((KeepsOthers.setCell w6 _ _).from _))
  have hO3' : w6.ownsRow w.heap.size 9 1 (.slice A3 (pre.length + 1) c3) (pre.length + 1) (strs (pre ++ [x])) := by rw [strs_append1]; exact hO3
  refine ⟨hkf, hkw.trans (KeepsWalks.setCell _ _ _), A3, c3, by simpa using hO7.set (.slice A3 (pre.length + 1) c3), ?_, hbw.setCell (Nat.le_refl _) _⟩
  have h9 := own_far hO3' (p := ⟨w.heap.size, 0, none⟩) (hO7.not_row (by decide) hO3') (.slice A3 (pre.length + 1) c3)
  simpa using h9
 case done =>
  rintro D zs W hD hz ⟨A, c, h1, h2, h3⟩ hK
  have hc := h1.cell
  gi_wp2
  refine ⟨by simp, .inl ⟨_, _, rfl, run_takeDeferred hK, ?_⟩⟩
  have hzl : zs.length = l.length := by have := hz.length_eq; simpa using this
  refine ⟨_, results_tmp rfl _ _ _, A, c, zs, by rw [← hzl]; rfl, hz, ?_, ?_⟩
  ·rw [← hzl]
   exact ownsRow_putObj h2 _ hK rfl
  ·exact h3.trans (belowK_b (w := w) (Nat.le_refl _) W D _ _ (by simp at hD; omega) hK rfl rfl)
 case stop =>
  rintro D c pre W _ _ h _
  exact h.elim
theorem collectD_any (w : World) (Bm m n : Nat) (l : List (List UInt8 × Hd)) (hl : l.length ≤ 1000000) (hm : w.cell? ⟨Bm, 0, none⟩ = some (.map (some m))) (hown : MapL dirsC w m n l) :
  Calls Tryz.prog 80 #[.func (.func 112) #[] #[.pointer (some ⟨Bm, 0, none⟩)]] w fun e w' => ∃ (A : Option Addr) (c : Nat) (xs : List (List UInt8)), e = .returned (.slice A l.length c) ∧ xs.Perm (l.map (·.1)) ∧ Ow w w' 9 1 A l.length c (strs xs) := by
 have C := Lib.hid (appendSeqD_any w Bm m n l hl hm hown)
 clear hm hown
 go_enter Tryz.func80, Tryz.ntmps80
 go_wp2_with (go_at_call 127; refine C.out.mono ?_; rintro e w2 ⟨A, c, xs, rfl, hp, hO⟩)
 go_ret
 exact ⟨A, c, xs, rfl, hp, hO⟩
theorem sortedSD_any (w : World) (Bm m n : Nat) (l : List (List UInt8 × Hd)) (hl : l.length ≤ 1000000) (hm : w.cell? ⟨Bm, 0, none⟩ = some (.map (some m))) (hown : MapL dirsC w m n l) :
  Calls Tryz.prog 64 #[.func (.func 112) #[] #[.pointer (some ⟨Bm, 0, none⟩)]] w fun e w' => ∃ (A : Option Addr) (c : Nat) (xs : List (List UInt8)), e = .returned (.slice A l.length c) ∧ xs.Perm (l.map (·.1)) ∧ Ow w w' 9 1 A l.length c (strs (sortS xs)) := by
 have C := Lib.hid (collectD_any w Bm m n l hl hm hown)
 clear hm hown
 go_enter Tryz.func64, Tryz.ntmps64
 go_wp2_with (first
  | (go_at_call 80; refine C.out.mono ?_; rintro e w2 ⟨A, c, xs, rfl, hp, hO⟩; have C2 := Lib.hid (sortS_any w w2 A l.length c xs hO (by omega)); have HP := Lib.hid hp; clear hO hp)
  | (go_at_call 111; refine C2.out.mono ?_; rintro e w3 ⟨rfl, hO3⟩; have HO3 := Lib.hid hO3; clear hO3))
 go_ret
 exact ⟨A, c, xs, rfl, HP.out, HO3.out⟩
end Go.Proofs.YtcednfmkiaelnaaGreatDoor
namespace Go.Proofs.YtcednfmkiaelnaaGreatDoor
open Go.RowKit
open TreeLaw
open PathLaw (Bs)
def RowsAt (w : World) (hs : List Hd) (raws : List Bs) : Prop :=
 hs.length = raws.length ∧ ∀ (i : Nat) (h : Hd) (raw : Bs), hs[i]? = some h → raws[i]? = some raw → SlT (fun _ => True) 5 w 1 h.a h.n (u8s raw) ∧ h.n ≤ h.c
theorem RowsAt.keep {w w' : World} {hs : List Hd} {raws : List Bs} (h : RowsAt w hs raws) (hk : KeepT 5 w w') : RowsAt w' hs raws :=
 ⟨h.1, fun i x raw h1 h2 => ⟨(h.2 i x raw h1 h2).1.keep hk, (h.2 i x raw h1 h2).2⟩⟩
theorem RowsAt.nil_ (w : World) : RowsAt w [] [] := ⟨rfl, fun i h raw h1 => by simp at h1⟩
theorem RowsAt.snoc {w : World} {hs : List Hd} {raws : List Bs} (h : RowsAt w hs raws) {x : Hd} {raw : Bs} (h1 : SlT (fun _ => True) 5 w 1 x.a x.n (u8s raw)) (h2 : x.n ≤ x.c) : RowsAt w (hs ++ [x]) (raws ++ [raw]) := by
 refine ⟨by simp [h.1], fun i y r e1 e2 => ?_⟩
 rcases Nat.lt_trichotomy i hs.length with hi | hi | hi
 ·rw [List.getElem?_append_left hi] at e1
  rw [List.getElem?_append_left (by rw [← h.1]; exact hi)] at e2
  exact h.2 i y r e1 e2
 ·subst hi
  rw [List.getElem?_append_right (Nat.le_refl _)] at e1
  rw [h.1, List.getElem?_append_right (Nat.le_refl _)] at e2
  simp at e1 e2
  subst e1 e2
  exact ⟨h1, h2⟩
 ·rw [List.getElem?_eq_none (by simp; omega)] at e1
  cases e1
def metF (raws : List Bs) (s : Bs) : Option Bs := if s ∈ raws then some (sumL s) else none
theorem metF_snoc (raws : List Bs) (r : Bs) : upd (metF raws) r (some (sumL r)) = metF (raws ++ [r]) := by
 funext s
 unfold upd metF
 by_cases h : s = r <;> simp [h]
structure BuildAt (B : Nat) (w : World) (q m : Nat) (A : Option Addr) (n c : Nat) (hs : List Hd) (raws : List Bs) : Prop where
 blk : Blk w q 74 #[.slice A n c, .map (some m)]
 own : w.ownsRow B 38 1 (.slice A n c) n (hs.map Hd.v)
 map : MapIs mssC w m raws.length (metF raws)
 rows : RowsAt w hs raws
 base : B ≤ w.heap.size
 lo : B ≤ q ∧ B ≤ m
def KeepB (m : Nat) (w w' : World) : Prop :=
 (∀ t : TypeId, t ≠ 74 → t ≠ 38 → KeepT t w w') ∧ ∀ (b : Nat) (es : Array MapEntry) (c : Nat), b ≠ m → w.heap[b]? = some (.map es c) → w'.heap[b]? = some (.map es c)
section
variable {B q m n c : Nat} {A : Option Addr} {hs : List Hd} {raws : List Bs} {a w w' : World}
theorem BuildAt.count (h : BuildAt B w q m A n c hs raws) : n = raws.length := by
 have h1 := h.own.1
 rw [← h.rows.1]
 simpa using h1.symm
theorem BuildAt.step (h : BuildAt B w q m A n c hs raws) (hb : Below w.heap.size w w') : BuildAt B w' q m A n c hs raws :=
 ⟨h.blk.step hb, own_stepP h.own hb, h.map.step hb, h.rows.keep (.of_below hb), Nat.le_trans h.base hb.size, h.lo⟩
theorem BuildAt.ne (h : BuildAt B w q m A n c hs raws) : m ≠ q := h.map.ne_blk h.blk
theorem KeepB.refl (m : Nat) (w : World) : KeepB m w w := ⟨fun _ _ _ => .refl _ w, fun _ _ _ _ h => h⟩
theorem KeepB.of_below (hb : Below w.heap.size w w') : KeepB m w w' := ⟨fun _ _ _ => .of_below hb, fun b _ _ _ h => (hb.block b (heap_lt h)).trans h⟩
theorem KeepB.trans (h : KeepB m a w) (k : KeepB m w w') : KeepB m a w' := ⟨fun t h1 h2 => (h.1 t h1 h2).trans (k.1 t h1 h2), fun b es c hb hm => k.2 b es c hb (h.2 b es c hb hm)⟩
theorem KeepB.map {P : Program} {k e : TypeId} {κ α : Type} {C : Coding P k e κ α} {b cnt : Nat} {f : κ → Option α} (h : KeepB m w w') (hb : b ≠ m) (hm : MapIs C w b cnt f) : MapIs C w' b cnt f := by
 refine hm.block ?_
 obtain ⟨D, ⟨es, clock, h1, _⟩, _⟩ := hm
 rw [h1, h.2 b es clock hb h1]
theorem KeepB.own {b sz j : Nat} {e : TypeId} {v : Value} {xs : List Value} (h : KeepB m w w') (h1 : e ≠ 74) (h2 : e ≠ 38) (ho : w.ownsRow b e sz v j xs) : w'.ownsRow b e sz v j xs := by
 refine own_block ho fun k hk => ?_
 rcases ho.2 with ⟨hv, _⟩ | ⟨g, cap, cur, hv, _, hh, _⟩
 ·rw [hv] at hk; cases hk
 ·rw [hv] at hk
  obtain rfl : g = k := by simpa [Value.ownBlock] using hk
  rw [hh, h.1 e h1 h2 g cur _ hh]
end
structure DirsAt (B : Nat) (w : World) (m cnt : Nat) (f : Bs → Option Hd) (r : Bs → List Fil) : Prop where
 map : MapIs dirsC w m cnt f
 base : B ≤ w.heap.size
 lo : B ≤ m
 rows : ∀ d h, f d = some h → w.ownsRow B 61 2 h.v h.n (fls (r d)) ∧ h.n = (r d).length ∧ r d ≠ []
 empty : ∀ d, f d = none → r d = []
 apart : ∀ d d' h h', f d = some h → f d' = some h' → d ≠ d' → h.v.ownBlock = none ∨ h.v.ownBlock ≠ h'.v.ownBlock
section
variable {B m cnt : Nat} {w w' : World} {f : Bs → Option Hd} {r : Bs → List Fil}
theorem DirsAt.step (h : DirsAt B w m cnt f r) (hb : Below w.heap.size w w') : DirsAt B w' m cnt f r :=
 ⟨h.map.step hb, Nat.le_trans h.base hb.size, h.lo, fun d x hx => ⟨own_stepP (h.rows d x hx).1 hb, (h.rows d x hx).2⟩, h.empty, h.apart⟩
theorem DirsAt.keep {m' : Nat} (h : DirsAt B w m cnt f r) (hk : KeepB m' w w') (hm : m ≠ m') (hs : w.heap.size ≤ w'.heap.size) : DirsAt B w' m cnt f r :=
 ⟨hk.map hm h.map, Nat.le_trans h.base hs, h.lo, fun d x hx => ⟨hk.own (by decide) (by decide) (h.rows d x hx).1, (h.rows d x hx).2⟩, h.empty, h.apart⟩
theorem DirsAt.put {W w9 w10 : World} {key : Bs} {hd hd' : Hd} {x : Fil} (h : DirsAt B W m cnt f r) (hhd : hd = (f key).getD ⟨none, 0, 0⟩)
  (hg9 : W.grownBy w9 hd.v.ownBlock) (hr : w9.ownsRow B 61 2 hd'.v hd'.n (fls (r key ++ [x]))) (hn' : hd'.n = hd.n + 1) (ho : hd'.v.ownBlock = hd.v.ownBlock ∨ hd'.v.ownBlock = some W.heap.size)
  (hg10 : w9.grownBy w10 (some m)) (hmap : MapIs dirsC w10 m (cnt + 1) (upd f key (some hd'))) :
  DirsAt B w10 m (cnt + 1) (upd f key (some hd')) (fun d => if d = key then r key ++ [x] else r d) := by
 have hlt : ∀ {v : Value} {j : Nat} {xs : List Value} {k : Nat}, W.ownsRow B 61 2 v j xs → v.ownBlock = some k → k < W.heap.size := fun h1 h2 => (h1.lt _ h2).2
 have hold : ∀ d h0, f d = some h0 → d ≠ key → h0.v.ownBlock = none ∨ h0.v.ownBlock ≠ hd.v.ownBlock := fun d h0 e hne => by
  rcases hk : f key with _ | h1
  ·rw [hk] at hhd
   rw [hhd]
   rcases hb : h0.v.ownBlock with _ | j
   ·exact .inl rfl
   ·exact .inr (by simp [Hd.v, Hd.a, Value.ownBlock])
  ·rw [hk] at hhd
   obtain rfl : hd = h1 := hhd
   exact h.apart d key h0 hd e hk hne
 have hno : ∀ {b sz j : Nat} {e : TypeId} {v : Value} {xs : List Value}, w9.ownsRow b e sz v j xs → v.ownBlock ≠ some m := fun ho e => by
  rcases ho.2 with ⟨hv, _⟩ | ⟨g, cap, cur, hv, _, hh, _⟩
  ·rw [hv] at e; cases e
  ·rw [hv] at e
   obtain rfl : g = m := by simpa [Value.ownBlock] using e
   have h1 := hmap
   obtain ⟨D, ⟨es, clock, h2, _⟩, _⟩ := h.map
   have h3 : w9.heap[g]? = some (.map es clock) := by
    refine (hg9.block g (heap_lt h2) ?_).trans h2
    intro e2
    rcases hk : f key with _ | h1
    ·rw [hk] at hhd; rw [hhd] at e2; simp [Hd.v, Hd.a, Value.ownBlock] at e2
    ·rw [hk] at hhd
     obtain rfl : hd = h1 := hhd
     have h4 := (h.rows key hd hk).1
     exact h.map.ne_own h4 e2
   rw [h3] at hh
   cases hh
 refine ⟨hmap, Nat.le_trans h.base (Nat.le_trans hg9.size hg10.size), h.lo, fun d h' hk => ?_, fun d hk => ?_, fun d d' h1 h2 e1 e2 hne => ?_⟩
 ·unfold upd at hk
  split at hk
  ·rename_i hd0
   obtain rfl : hd' = h' := Option.some.inj hk
   simp only [hd0, if_true]
   have h9 := hr.1
   refine ⟨hr.kept hg10 (.inr (fun e => hno hr e)), ?_, by simp⟩
   rw [fls_len] at h9
   omega
  ·rename_i hne
   simp only [hne, if_false]
   obtain ⟨r1, r2⟩ := h.rows d h' hk
   have r3 := r1.kept hg9 (hold d h' hk hne)
   exact ⟨r3.kept hg10 (.inr (fun e => hno r3 e)), r2⟩
 ·unfold upd at hk
  split at hk
  ·cases hk
  ·rename_i hne
   simp only [hne, if_false]
   exact h.empty d hk
 ·have ap : ∀ {k0 : Bs} {h0 : Hd}, f k0 = some h0 → k0 ≠ key → h0.v.ownBlock = none ∨ h0.v.ownBlock ≠ hd'.v.ownBlock := fun {k0 h0} e0 ne0 => by
   obtain ⟨r1, _⟩ := h.rows k0 h0 e0
   rcases hob : h0.v.ownBlock with _ | j
   ·exact .inl rfl
   ·right
    intro e
    rcases ho with ho | ho
    ·rw [ho] at e
     rcases hold k0 h0 e0 ne0 with a1 | a1
     ·rw [hob] at a1; cases a1
     ·exact a1 (hob.trans e)
    ·have := hlt r1 hob
     rw [ho] at e
     injection e with e
     omega
  unfold upd at e1 e2
  split at e1
  ·obtain rfl : hd' = h1 := Option.some.inj e1
   split at e2
   ·rename_i a1 a2
    exact absurd (a1.trans a2.symm) hne
   ·rename_i a2
    rcases ap e2 a2 with a3 | a3
    ·right
     rw [a3]
     intro e
     rcases hr.2 with ⟨_, h0⟩ | ⟨g', cap, cur, hv, _⟩
     ·omega
     ·rw [hv] at e; cases e
    ·exact .inr (fun e => a3 e.symm)
  ·rename_i a1
   split at e2
   ·obtain rfl : hd' = h2 := Option.some.inj e2
    exact ap e1 a1
   ·exact h.apart d d' h1 h2 e1 e2 hne
end
theorem inOf_snoc {l : List Fil} {i : Nat} {f : Fil} (h : l[i]? = some f) (d : Bs) : inOf (l.take (i + 1)) d = match (cutS f.1).2 with
  | some r => if (cutS f.1).1 = d then inOf (l.take i) d ++ [(r, f.2)] else inOf (l.take i) d
  | none => inOf (l.take i) d := by
 unfold inOf
 rw [List.take_add_one, h, List.filterMap_append]
 rcases hc : (cutS f.1).2 with _ | r
 ·simp [hc]
 ·by_cases hd : (cutS f.1).1 = d
  ·simp [hc, hd]
  ·simp [hc, hd]
theorem fileEs_snoc {l : List Fil} {i : Nat} {f : Fil} (h : l[i]? = some f) : fileEs (l.take (i + 1)) = if (entOf f).2.1 then fileEs (l.take i) else fileEs (l.take i) ++ [entOf f] := by
 unfold fileEs
 rw [List.take_add_one, h, List.map_append, List.filter_append]
 rcases hb : (entOf f).2.1 with _ | _ <;> simp [hb]
def wgt (l : List Fil) : Nat := (l.map fun f => f.1.length + 1).sum
theorem wgt_dirs {ns : List Bs} (hn : ns.Nodup) (l : List Fil) : (ns.map fun d => ((inOf l d).map fun f => f.1.length + 2).sum).sum ≤ wgt l := by
 induction l with
 | nil =>
  have : ∀ ns : List Bs, (ns.map fun d => ((inOf [] d).map fun f => f.1.length + 2).sum).sum = 0 := by
   intro ns
   induction ns with
   | nil => rfl
   | cons d t ih => rw [List.map_cons, List.sum_cons, ih]; simp [inOf]
  rw [this]
  exact Nat.zero_le _
 | cons f t ih =>
  have e : wgt (f :: t) = f.1.length + 1 + wgt t := by simp [wgt]
  rw [e]
  have h1 : ∀ ns : List Bs, ns.Nodup → (ns.map fun d => ((inOf (f :: t) d).map fun f => f.1.length + 2).sum).sum ≤ (ns.map fun d => ((inOf t d).map fun f => f.1.length + 2).sum).sum + (if (cutS f.1).1 ∈ ns then f.1.length + 1 else 0) := by
   intro ns
   induction ns with
   | nil => intro _; simp
   | cons d r ih2 =>
    intro hnd
    rw [List.nodup_cons] at hnd
    have h2 := ih2 hnd.2
    have h3 : ((inOf (f :: t) d).map fun f => f.1.length + 2).sum ≤ ((inOf t d).map fun f => f.1.length + 2).sum + (if (cutS f.1).1 = d then f.1.length + 1 else 0) := by
     unfold inOf
     rw [List.filterMap_cons]
     split
     ·exact Nat.le_add_right _ _
     ·rename_i g hg
      split at hg
      ·rename_i rr hr
       split at hg
       ·rename_i hd
        injection hg with hg
        subst hg
        have h4 := congrArg List.length (cutS_some hr).1
        simp only [List.length_append, List.length_cons] at h4
        rw [if_pos hd]
        simp only [List.map_cons, List.sum_cons]
        omega
       ·cases hg
      ·cases hg
    rw [List.map_cons, List.sum_cons, List.map_cons, List.sum_cons]
    by_cases hd : (cutS f.1).1 = d
    ·rw [if_pos hd] at h3
     have hnot : (cutS f.1).1 ∉ r := by rw [hd]; exact hnd.1
     rw [if_neg hnot] at h2
     rw [if_pos (by simp [hd])]
     omega
    ·rw [if_neg hd] at h3
     have hiff : ((cutS f.1).1 ∈ d :: r) ↔ ((cutS f.1).1 ∈ r) := by simp [hd]
     by_cases hr : (cutS f.1).1 ∈ r
     ·rw [if_pos hr] at h2
      rw [if_pos (hiff.2 hr)]
      omega
     ·rw [if_neg hr] at h2
      rw [if_neg (fun h => hr (hiff.1 h))]
      omega
  have h4 := h1 ns hn
  have h5 : (if (cutS f.1).1 ∈ ns then f.1.length + 1 else 0) ≤ f.1.length + 1 := by split <;> omega
  omega
theorem wgt_dirs1 {ns : List Bs} (hn : ns.Nodup) (l : List Fil) (hne : ∀ d ∈ ns, inOf l d ≠ []) : (ns.map fun d => wgt (inOf l d) + 1).sum ≤ wgt l := by
 refine Nat.le_trans ?_ (wgt_dirs hn l)
 clear hn
 induction ns with
 | nil => simp
 | cons d r ih =>
  have h1 := ih (fun x hx => hne x (by simp [hx]))
  rw [List.map_cons, List.sum_cons, List.map_cons, List.sum_cons]
  have h2 : wgt (inOf l d) + 1 ≤ ((inOf l d).map fun f => f.1.length + 2).sum := by
   have h3 : ∀ m : List Fil, (m.map fun f => f.1.length + 2).sum = wgt m + m.length := by
    intro m
    induction m with
    | nil => rfl
    | cons x t ih => simp [wgt, ih] at *; omega
   rw [h3]
   have h4 := List.length_pos_iff.2 (hne d (by simp))
   omega
  omega
theorem addR_len (out : List Bs) (raw : Bs) : (addR out raw).length ≤ out.length + 1 := by
 unfold addR
 split <;> simp
theorem buildL_len (k : Nat) : ∀ (l : List Fil) (out : List Bs), FineB l → (buildL k l out).2.length ≤ out.length + wgt l + 1 := by
 induction k with
 | zero => intro l out _; show out.length ≤ _; omega
 | succ k ih =>
  intro l out hl
  rw [buildL_succ]
  have h1 := (stepB_parts k l (entsOf l) [] [] out rfl).1
  have h2 : ∀ (ns : List Bs) (acc : List Ent3 × List Bs), (ns.foldl (stepD k l) acc).2.length ≤ acc.2.length + (ns.map fun d => wgt (inOf l d) + 1).sum := by
   intro ns
   induction ns with
   | nil => intro acc; simp
   | cons d r ih2 =>
    intro acc
    have h3 := ih2 (stepD k l acc d)
    have h4 := ih (inOf l d) acc.2 (hl.inOf d)
    rw [List.foldl_cons, List.map_cons, List.sum_cons]
    unfold stepD at h3 ⊢
    simp only at h3
    omega
  have h3 := h2 (dirNs l) ([], out)
  have h4 := wgt_dirs1 (l := l) ((dirNs_rise l).imp (fun h e => absurd (e ▸ h) (List.lt_irrefl _))) (fun d hd => (mem_dirNs hl d).1 hd)
  have h5 := addR_len ((entsOf l).foldl (stepB k l) ([], out)).2 (encT ((entsOf l).foldl (stepB k l) ([], out)).1)
  simp only at h1 h3 ⊢
  unfold dirNs at h3 h4
  rw [← h1] at h3
  omega
theorem stepD_room (k : Nat) (l : List Fil) (hl : FineB l) (out : List Bs) (j : Nat) {d : Bs} (hd : (dirNs l)[j]? = some d) : (((dirNs l).take j).foldl (stepD k l) ([], out)).2.length + wgt (inOf l d) + 1 ≤ out.length + wgt l := by
 have h2 : ∀ (ns : List Bs) (acc : List Ent3 × List Bs), (ns.foldl (stepD k l) acc).2.length ≤ acc.2.length + (ns.map fun d => wgt (inOf l d) + 1).sum := by
  intro ns
  induction ns with
  | nil => intro acc; simp
  | cons d r ih2 =>
   intro acc
   have h3 := ih2 (stepD k l acc d)
   have h4 := buildL_len k (inOf l d) acc.2 (hl.inOf d)
   rw [List.foldl_cons, List.map_cons, List.sum_cons]
   unfold stepD at h3 ⊢
   simp only at h3
   omega
 have h3 := h2 ((dirNs l).take j) ([], out)
 have h4 := wgt_dirs1 (l := l) ((dirNs_rise l).imp (fun h e => absurd (e ▸ h) (List.lt_irrefl _))) (fun d hd => (mem_dirNs hl d).1 hd)
 have h5 : ((dirNs l).take (j + 1)) = (dirNs l).take j ++ [d] := by rw [List.take_add_one, hd]; rfl
 have h6 : (((dirNs l).take (j + 1)).map fun d => wgt (inOf l d) + 1).sum ≤ ((dirNs l).map fun d => wgt (inOf l d) + 1).sum := by
  conv => rhs; rw [← List.take_append_drop (j + 1) (dirNs l)]
  rw [List.map_append, List.sum_append]
  omega
 rw [h5, List.map_append, List.sum_append] at h6
 simp only [List.map_cons, List.map_nil, List.sum_cons, List.sum_nil] at h6
 simp only at h3
 omega
end Go.Proofs.YtcednfmkiaelnaaGreatDoor
namespace Go.Proofs.YtcednfmkiaelnaaGreatDoor
open Go.RowKit Go.Sort Go.Shelf
def cmpB (a b : List UInt8) : Int := if a < b then -1 else if b < a then 1 else 0
set_option maxRecDepth 100000 in
set_option maxHeartbeats 1000000 in
theorem cmpB_any (a b : List UInt8) (w : World) : Calls Tryz.prog 62 #[S a, S b] w fun e w' => e = .returned (I (cmpB a b)) ∧ w' = w := by
 have hways : (Op.bytesLess a b = true ∧ cmpB a b = -1) ∨ (Op.bytesLess a b = false ∧ (a == b) = false ∧ cmpB a b = 1) ∨ (Op.bytesLess a b = false ∧ (a == b) = true ∧ cmpB a b = 0) := by
  rw [Go.Proofs.bytesLess_eq]
  by_cases h1 : a < b
  ·exact .inl ⟨by simpa using h1, by unfold cmpB; rw [if_pos h1]⟩
  ·by_cases h2 : b < a
   ·refine .inr (.inl ⟨by simpa using h1, ?_, by unfold cmpB; rw [if_neg h1, if_pos h2]⟩)
    rw [beq_eq_false_iff_ne]
    rintro rfl
    exact List.lt_irrefl _ h2
   ·exact .inr (.inr ⟨by simpa using h1, by rw [beq_iff_eq]; exact List.le_antisymm (List.not_lt.1 h2) (List.not_lt.1 h1), by unfold cmpB; rw [if_neg h1, if_neg h2]⟩)
 rcases hways with ⟨h1, h3⟩ | ⟨h1, h2, h3⟩ | ⟨h1, h2, h3⟩
 all_goals
  rw [h3]
  clear h3
  go_enter Tryz.func62, Tryz.ntmps62
  go_wp2
  go_ret
  exact ⟨rfl, rfl⟩
section
variable {α : Type} (κ : α → List UInt8)
theorem ltB {x y : α} : ltOf (fun x y => cmpB (κ x) (κ y)) x y = true ↔ κ x < κ y := by
 unfold ltOf cmpB
 by_cases h1 : κ x < κ y
 ·simp [h1]
 ·by_cases h2 : κ y < κ x <;> simp [h1, h2]
theorem swoB : SWO (ltOf fun x y => cmpB (κ x) (κ y)) where
 irrefl x := by rw [← Bool.not_eq_true, ltB]; exact List.lt_irrefl _
 trans x y z h1 h2 := by rw [ltB] at *; exact List.lt_trans h1 h2
 ntrans x y z h1 h2 := by
  rw [← Bool.not_eq_true, ltB] at *
  exact List.not_lt.2 (List.le_trans (List.not_lt.1 h2) (List.not_lt.1 h1))
end
theorem Tryz.aggEnt3 (w : World) : (isAgg 129).run Tryz.prog w = .ok true w := by kernel_rfl
theorem Tryz.sizeEnt3 (w : World) : (Go.sizeOf 129).run Tryz.prog w = .ok 3 w := by kernel_rfl
theorem Tryz.aggFil (w : World) : (isAgg 61).run Tryz.prog w = .ok true w := by kernel_rfl
theorem Tryz.sizeFil (w : World) : (Go.sizeOf 61).run Tryz.prog w = .ok 2 w := by kernel_rfl
abbrev ent3V (x : Ent3) : Value := .agg #[S x.1, .bool x.2.1, S x.2.2]
abbrev filV (x : Fil) : Value := .agg #[S x.1, S x.2]
set_option maxRecDepth 100000 in
set_option maxHeartbeats 2000000 in
theorem build1_any (x y : Ent3) (w : World) : Calls Tryz.prog 67 #[ent3V x, ent3V y] w fun e w' => e = .returned (I (cmpB x.1 y.1)) ∧ ∃ q os, w' = Go.Sort.grow (w.drewN q) os := by
 have r0 := ((Blk.new w 129 #[S x.1, .bool x.2.1, S x.2.2]).alloc (.cells #[S y.1, .bool y.2.1, S y.2.2] 129)).cell
 have r1 := (Blk.new (w.alloc (.cells #[S x.1, .bool x.2.1, S x.2.2] 129)) 129 #[S y.1, .bool y.2.1, S y.2.2]).cell
 simp only [World.size_alloc] at r1
 have C := Lib.hid (cmpB_any x.1 y.1)
 go_enter Tryz.func67, Tryz.ntmps67
 go_wp2_with (go_at_call 62; refine (C.out _).mono ?_; rintro e w' ⟨rfl, rfl⟩)
 go_ret
 exact ⟨rfl, 0, #[.cells #[S x.1, .bool x.2.1, S x.2.2] 129, .cells #[S y.1, .bool y.2.1, S y.2.2] 129], by rw [Go.Sort.alloc_eq_grow, Go.Sort.alloc_eq_grow, Go.Sort.grow_grow]; rfl⟩
set_option maxRecDepth 100000 in
set_option maxHeartbeats 2000000 in
theorem read2_any (x y : Fil) (w : World) : Calls Tryz.prog 61 #[filV x, filV y] w fun e w' => e = .returned (I (cmpB x.1 y.1)) ∧ ∃ q os, w' = Go.Sort.grow (w.drewN q) os := by
 have r0 := ((Blk.new w 61 #[S x.1, S x.2]).alloc (.cells #[S y.1, S y.2] 61)).cell
 have r1 := (Blk.new (w.alloc (.cells #[S x.1, S x.2] 61)) 61 #[S y.1, S y.2]).cell
 simp only [World.size_alloc] at r1
 have C := Lib.hid (cmpB_any x.1 y.1)
 go_enter Tryz.func61, Tryz.ntmps61
 go_wp2_with (go_at_call 62; refine (C.out _).mono ?_; rintro e w' ⟨rfl, rfl⟩)
 go_ret
 exact ⟨rfl, 0, #[.cells #[S x.1, S x.2] 61, .cells #[S y.1, S y.2] 61], by rw [Go.Sort.alloc_eq_grow, Go.Sort.alloc_eq_grow, Go.Sort.grow_grow]; rfl⟩
theorem sorted_out {α : Type} [Inhabited α] (κ : α → List UInt8) {d d' : Array α} (hp : PermIn 0 d.size d d') (hs : SortedIn (ltOf fun x y => cmpB (κ x) (κ y)) 0 d.size d') : d'.toList.Perm d.toList ∧ (d'.toList.map κ).Pairwise (fun a b => ¬ b < a) := by
 obtain ⟨hsz, _, hperm⟩ := hp
 have e1 : d'.extract 0 d.size = d' := by rw [← hsz]; exact Array.extract_size
 rw [e1, Array.extract_size] at hperm
 refine ⟨by simpa using hperm, ?_⟩
 rw [List.pairwise_map, List.pairwise_iff_getElem]
 intro i j hi hj hij
 have hi' : i < d'.size := by simpa using hi
 have hj' : j < d'.size := by simpa using hj
 have := hs i j (Nat.zero_le _) hij (by rw [← hsz]; exact hj')
 rw [getElem!_pos d' j hj', getElem!_pos d' i hi'] at this
 rw [Array.getElem_toList, Array.getElem_toList]
 rw [← Bool.not_eq_true, ltB] at this
 exact this
theorem sortEnt_any (w0 w : World) (A : Option Addr) (n c : Nat) (l : List Ent3) (hO : Ow w0 w 129 3 A n c (ens l)) (hb : n ≤ 1000000) :
  Calls Tryz.prog 66 #[.slice A n c, .func (.func 67) #[] #[]] w fun e w' => e = .returned (.tuple #[]) ∧ ∃ s : List Ent3, s.Perm l ∧ (s.map (·.1)).Pairwise (fun a b => ¬ b < a) ∧ Ow w0 w' 129 3 A n c (ens s) ∧ w.grownBy w' (Value.slice A n c).ownBlock := by
 have hn := ens_count hO.sl
 rcases Nat.eq_zero_or_pos n with h0 | h0
 ·subst h0
  obtain rfl : l = [] := List.eq_nil_of_length_eq_zero hn
  refine (AnyF.slices_SortFunc_none Tryz.sortEnt3 A c _ w).mono ?_
  rintro e w' ⟨rfl, rfl⟩
  exact ⟨rfl, [], List.Perm.refl _, List.Pairwise.nil, hO, ⟨rfl, rfl, rfl, Nat.le_refl _, fun _ _ _ => rfl⟩⟩
 ·obtain ⟨g, rfl, hg0, hg⟩ := hO.form h0
  subst hn
  have hH : HoldsK enC 3 w g 0 l.toArray := by
   unfold HoldsK
   rw [flatK_eq (enc := enC) (k := 3) (fun _ => rfl)]
   rcases hO.1.2 with ⟨hv, _⟩ | ⟨g', cap', cur, hv, hbase, hb, h1, h2, h3, h4⟩
   ·cases hv
   ·cases hv
    refine holds_own hb ?_
    rw [show (l.toArray.toList.flatMap enC).length = l.length * 3 from ens_len l]
    exact h4
  have hc := AnyQ.slices_SortFunc Tryz.sortEnt3 3 Tryz.aggEnt3 Tryz.sizeEnt3 enC (fun _ => rfl) (fun x v hv => by simp [enC] at hv; rcases hv with rfl | rfl | rfl <;> rfl) (fun x y => cmpB x.1 y.1) (swoB fun x : Ent3 => x.1) 67 #[] g 0 c l.toArray w
   (enters_of Tryz.func67 (by kernel_rfl) rfl)
   (fun m os dk _ x y => build1_any x y _) hH hg (by simp; omega)
  refine hc.mono ?_
  rintro e w' ⟨rfl, d', m, os, hp, hs, rfl⟩
  obtain ⟨h1, h2⟩ := sorted_out (fun x : Ent3 => x.1) hp hs
  have hw : sortWorldK enC 3 w g 0 m d' os = grow (putRow id (Sort.ahead w m) g 0 (ens d'.toList).toArray) os := by
   unfold sortWorldK putRowK
   rw [flatK_eq (enc := enC) (k := 3) (fun _ => rfl)]
   rfl
  rw [hw]
  have hl2 : (ens d'.toList).length = (ens l).length := by rw [ens_len, ens_len, h1.length_eq]
  exact ⟨rfl, d'.toList, by simpa using h1, h2, ⟨own_put hO.1 hl2, hO.2.grown (grown_put _) hO.2.size (fun k e => by cases e; exact hg0)⟩, grown_put _⟩
theorem sortFil_any (w0 w : World) (A : Option Addr) (n c : Nat) (l : List Fil) (hO : Ow w0 w 61 2 A n c (fls l)) (hb : n ≤ 1000000) :
  Calls Tryz.prog 60 #[.slice A n c, .func (.func 61) #[] #[]] w fun e w' => e = .returned (.tuple #[]) ∧ ∃ s : List Fil, s.Perm l ∧ (s.map (·.1)).Pairwise (fun a b => ¬ b < a) ∧ Ow w0 w' 61 2 A n c (fls s) ∧ w.grownBy w' (Value.slice A n c).ownBlock := by
 have hn := fls_count hO.sl
 rcases Nat.eq_zero_or_pos n with h0 | h0
 ·subst h0
  obtain rfl : l = [] := List.eq_nil_of_length_eq_zero hn
  refine (AnyF.slices_SortFunc_none Tryz.sortFil A c _ w).mono ?_
  rintro e w' ⟨rfl, rfl⟩
  exact ⟨rfl, [], List.Perm.refl _, List.Pairwise.nil, hO, ⟨rfl, rfl, rfl, Nat.le_refl _, fun _ _ _ => rfl⟩⟩
 ·obtain ⟨g, rfl, hg0, hg⟩ := hO.form h0
  subst hn
  have hH : HoldsK flC 2 w g 0 l.toArray := by
   unfold HoldsK
   rw [flatK_eq (enc := flC) (k := 2) (fun _ => rfl)]
   rcases hO.1.2 with ⟨hv, _⟩ | ⟨g', cap', cur, hv, hbase, hb, h1, h2, h3, h4⟩
   ·cases hv
   ·cases hv
    refine holds_own hb ?_
    rw [show (l.toArray.toList.flatMap flC).length = l.length * 2 from fls_len l]
    exact h4
  have hc := AnyQ.slices_SortFunc Tryz.sortFil 2 Tryz.aggFil Tryz.sizeFil flC (fun _ => rfl) (fun x v hv => by simp [flC] at hv; rcases hv with rfl | rfl <;> rfl) (fun x y => cmpB x.1 y.1) (swoB fun x : Fil => x.1) 61 #[] g 0 c l.toArray w
   (enters_of Tryz.func61 (by kernel_rfl) rfl)
   (fun m os dk _ x y => read2_any x y _) hH hg (by simp; omega)
  refine hc.mono ?_
  rintro e w' ⟨rfl, d', m, os, hp, hs, rfl⟩
  obtain ⟨h1, h2⟩ := sorted_out (fun x : Fil => x.1) hp hs
  have hw : sortWorldK flC 2 w g 0 m d' os = grow (putRow id (Sort.ahead w m) g 0 (fls d'.toList).toArray) os := by
   unfold sortWorldK putRowK
   rw [flatK_eq (enc := flC) (k := 2) (fun _ => rfl)]
   rfl
  rw [hw]
  have hl2 : (fls d'.toList).length = (fls l).length := by rw [fls_len, fls_len, h1.length_eq]
  exact ⟨rfl, d'.toList, by simpa using h1, h2, ⟨own_put hO.1 hl2, hO.2.grown (grown_put _) hO.2.size (fun k e => by cases e; exact hg0)⟩, grown_put _⟩
end Go.Proofs.YtcednfmkiaelnaaGreatDoor
namespace Go.Proofs.YtcednfmkiaelnaaGreatDoor
open Go.RowKit
namespace TreeLaw
open PathLaw (Bs)
theorem index47 (p : Bs) : match (cutS p).2 with
  | none => Lib.index p [47] = -1
  | some _ => Lib.index p [47] = ((cutS p).1.length : Int) := by
 induction p with
 | nil => rfl
 | cons c t ih =>
  by_cases hc : c = 47
  ·subst hc
   have e : cutS ((47 : UInt8) :: t) = ([], some t) := by simp [cutS]
   rw [e]
   simp [Lib.index]
  ·have e : cutS (c :: t) = (c :: (cutS t).1, (cutS t).2) := by conv => lhs; unfold cutS; rw [if_neg hc]
   rw [e]
   have hp : ([47] : Bs).isPrefixOf (c :: t) = false := by simp [List.isPrefixOf, Ne.symm hc]
   rcases h : (cutS t).2 with _ | r
   ·rw [h] at ih
    simp only at ih ⊢
    unfold Lib.index
    rw [hp, ih]
    rfl
   ·rw [h] at ih
    simp only at ih ⊢
    unfold Lib.index
    rw [hp, ih]
    have : ((((cutS t).1.length : Nat) : Int) == -1) = false := by rw [beq_eq_false_iff_ne]; omega
    rw [this]
    simp
theorem cut47 (p : Bs) : Lib.cut p [47] = ((cutS p).1, ((cutS p).2).getD [], ((cutS p).2).isSome) := by
 have h := index47 p
 unfold Lib.cut
 rcases hc : (cutS p).2 with _ | r
 ·rw [hc] at h
  simp only at h
  rw [h, if_neg (by omega), (cutS_none hc).1]
  rfl
 ·rw [hc] at h
  simp only at h
  rw [h, if_pos (by omega)]
  have e := (cutS_some hc).1
  have e1 : p.take (cutS p).1.length = (cutS p).1 := by
   conv => lhs; arg 2; rw [e]
   exact List.take_left'  rfl
  have e2 : p.drop ((cutS p).1.length + 1) = r := by
   conv => lhs; arg 2; rw [e]
   rw [← List.drop_drop, List.drop_left' rfl]
   rfl
  simp only [Int.toNat_natCast, List.length_cons, List.length_nil, Nat.zero_add, Option.getD_some, Option.isSome_some, e1, e2]
end TreeLaw
theorem cut_any (p : List UInt8) (w : World) (hp : p.length ≤ 4000000000) (hM : MaxL w) :
  Calls Tryz.prog 63 #[S p, S [47]] w fun e w' => e = .returned (.tuple #[S (TreeLaw.cutS p).1, S ((TreeLaw.cutS p).2.getD []), .bool (TreeLaw.cutS p).2.isSome]) ∧ ∃ n, w' = w.drewN n := by
 obtain ⟨m, hm⟩ := hM
 refine (Tryz.strings_Cut ⟨p.toArray⟩ ⟨#[47]⟩ m w (by rw [size_mk]; omega) hm).mono ?_
 rintro e w' ⟨rfl, h⟩
 refine ⟨?_, h⟩
 simp only [TreeLaw.cut47]
end Go.Proofs.YtcednfmkiaelnaaGreatDoor

/-
  tree.builder.build: the id of files' tree, and all trees, each once, behind those of before. Conditions: the files may be; the builder as BuildAt says; room for the trees; MaxLen holds an int.
-/
import Derived.Test.YtcednfmkiaelnaaGreatDoorTKitTd
import Derived.Test.YtcednfmkiaelnaaGreatDoorTKitTa
import Derived.Test.YtcednfmkiaelnaaGreatDoorTKitTb
import Derived.Test.YtcednfmkiaelnaaGreatDoorTKitSu
import Derived.BigQuiet
namespace Go.Proofs.YtcednfmkiaelnaaGreatDoor
open Go.RowKit
open TreeLaw
open PathLaw (Bs)
theorem sl_ent3 (w : World) (t : TypeId) (x : Ent3) : Sl (w.alloc (.cells #[S x.1, .bool x.2.1, S x.2.2] t)) 3 (some ⟨w.heap.size, 0, none⟩) 1 (ens [x]) := by
 refine ⟨by simp [ens, enC], fun _ => ⟨_, _, rfl, by simp, fun k hk => ?_⟩⟩
 rw [Nat.zero_add]
 simp [ens, enC]
theorem Tryz.infoByt : (Tryz.prog.info? 38).map (fun i => (i.zero, i.size, i.bytes)) = some (some (.slice none 0 0), 1, 24) := by kernel_rfl
theorem own_apart {w : World} {b1 b2 s1 s2 n1 n2 : Nat} {e1 e2 : TypeId} {v1 v2 : Value} {x1 x2 : List Value} (h1 : w.ownsRow b1 e1 s1 v1 n1 x1) (h2 : w.ownsRow b2 e2 s2 v2 n2 x2) (he : e1 ≠ e2) : v1.ownBlock = none ∨ v1.ownBlock ≠ v2.ownBlock := by
 rcases hv : v1.ownBlock with _ | k
 ·exact .inl rfl
 ·right
  intro e
  rcases h1.2 with ⟨hv1, _⟩ | ⟨g, cap, cur, hv1, _, hh, _⟩
  ·rw [hv1] at hv; cases hv
  ·rw [hv1] at hv
   obtain rfl : g = k := by simpa [Value.ownBlock] using hv
   exact own_type9 h2 (fun e => he e.symm) e.symm cur _ hh
theorem DirsAt.grown {B m cnt b sz j : Nat} {w w' : World} {f : Bs → Option Hd} {r : Bs → List Fil} {e : TypeId} {v : Value} {xs : List Value} (h : DirsAt B w m cnt f r) (ho : w.ownsRow b e sz v j xs) (he : 61 ≠ e) (hg : w.grownBy w' v.ownBlock) : DirsAt B w' m cnt f r :=
 ⟨h.map.grown hg (fun e => h.map.ne_own ho e), Nat.le_trans h.base hg.size, h.lo, fun d x hx => ⟨(h.rows d x hx).1.kept hg (own_apart (h.rows d x hx).1 ho he), (h.rows d x hx).2⟩, h.empty, h.apart⟩
structure Loop1 (w wr : World) (m cnt i : Nat) (l : List Fil) (A : Option Addr) (k c : Nat) (f : Bs → Option Hd) : Prop where
 ents : Ow w wr 129 3 A k c (ens (fileEs (l.take i)))
 dirs : DirsAt w.heap.size wr m cnt f (inOf (l.take i))
 cnt : cnt ≤ i
 few : k ≤ i
theorem Loop1.step {w wr wr' : World} {m cnt i k c : Nat} {l : List Fil} {A : Option Addr} {f : Bs → Option Hd} (h : Loop1 w wr m cnt i l A k c f) (hb : Below wr.heap.size wr wr') : Loop1 w wr' m cnt i l A k c f :=
 ⟨h.ents.keep hb, h.dirs.step hb, h.cnt, h.few⟩
theorem entOf_no {p id : Bs} (h : (cutS p).2 = none) : entOf (p, id) = ((cutS p).1, false, id) := by simp [entOf, h]
theorem entOf_so {p id r : Bs} (h : (cutS p).2 = some r) : (entOf (p, id)).2.1 = true := by simp [entOf, h]
theorem hdv_inj {a b : Hd} (h : a.v = b.v) : a = b := by
 obtain ⟨A, n, c⟩ := a
 obtain ⟨A', n', c'⟩ := b
 rcases A with _ | ⟨x, y⟩ <;> rcases A' with _ | ⟨x', y'⟩ <;> simp [Hd.v, Hd.a] at h ⊢
 ·exact h
 ·exact ⟨h.1, h.2⟩
theorem dirs_list {B : Nat} {w : World} {m cnt : Nat} {f : Bs → Option Hd} {l : List Fil} (h : DirsAt B w m cnt f (inOf l)) (hl : FineB l) : ∃ lst : List (Bs × Hd), MapL dirsC w m cnt lst ∧ (lst.map (·.1)).Perm (dirNs l) := by
 obtain ⟨lst, h1, h2⟩ := h.map.list dirsC_full (fun a b e => hdv_inj e)
 refine ⟨lst, h1, ?_⟩
 have hg : ∀ p ∈ lst, p.1.length ≤ maxLen := by obtain ⟨D, _, h3⟩ := h1; exact h3.good
 refine (List.perm_ext_iff_of_nodup h1.nodup ((dirNs_rise l).imp (fun h e => absurd (e ▸ h) (List.lt_irrefl _)))).2 fun d => ?_
 constructor
 ·intro hd
  obtain ⟨p, hp, rfl⟩ := List.mem_map.1 hd
  rcases hf : f p.1 with _ | x
  ·have h3 := h2 p.1 (hg p hp)
   rw [hf, lk_none] at h3
   exact absurd hd h3
  ·exact (mem_dirNs hl _).2 (h.rows _ x hf).2.2
 ·intro hd
  have h3 := (mem_dirNs hl d).1 hd
  have hlen : d.length ≤ maxLen := by
   obtain ⟨y, hy⟩ := List.exists_mem_of_ne_nil _ h3
   obtain ⟨h4, _⟩ := inOf_mem (l := l) (d := d) (r := y.1) (i := y.2) hy
   have h5 := (hl.parts _ h4).2
   simp only [List.length_append, List.length_cons] at h5
   exact Nat.le_trans (by omega : d.length ≤ 150) (by decide)
  refine Classical.byContradiction fun hn => ?_
  have h4 := h2 d hlen
  rw [lk_none.2 hn] at h4
  exact h3 (h.empty d h4.symm)
theorem BuildAt.grown {B q m n c b sz j : Nat} {A : Option Addr} {hs : List Hd} {raws : List Bs} {w w' : World} {e : TypeId} {v : Value} {xs : List Value} (h : BuildAt B w q m A n c hs raws) (ho : w.ownsRow b e sz v j xs) (h1 : e ≠ 74) (h2 : e ≠ 38) (h3 : e ≠ 5) (hg : w.grownBy w' v.ownBlock) : BuildAt B w' q m A n c hs raws :=
 ⟨(hg.block q h.blk.lt (fun e => own_no_blk ho h.blk h1 e.symm)).trans h.blk, h.own.kept hg (own_apart h.own ho (fun e => h2 e.symm)), h.map.grown hg (fun e => h.map.ne_own ho e), h.rows.keep (KeepT.grown (.refl _ _) hg (fun _ hk cs fr => own_type9 ho h3 hk cs fr)), Nat.le_trans h.base hg.size, h.lo⟩
theorem KeepB.grown {m : Nat} {a w w' : World} {row : Option Nat} (h : KeepB m a w) (hs : a.heap.size ≤ w.heap.size) (hg : w.grownBy w' row) (hr : ∀ k, row = some k → a.heap.size ≤ k) : KeepB m a w' :=
  ⟨fun t h1 h2 b cs fr hb => (hg.block b (Nat.lt_of_lt_of_le (heap_lt hb) hs) (fun e => by have := hr b e.symm; have := heap_lt hb; omega)).trans (h.1 t h1 h2 b cs fr hb),
   fun b es c hb hm => (hg.block b (Nat.lt_of_lt_of_le (heap_lt hm) hs) (fun e => by have := hr b e.symm; have := heap_lt hm; omega)).trans (h.2 b es c hb hm)⟩
theorem KeepB.step {m : Nat} {a w w' : World} (h : KeepB m a w) (hb : Below w.heap.size w w') : KeepB m a w' := h.trans (.of_below hb)
theorem KeepB.row {m b sz j : Nat} {w w' : World} {v : Value} {xs : List Value} (ho : w.ownsRow b 38 sz v j xs) (hg : w.grownBy w' v.ownBlock) : KeepB m w w' :=
  ⟨fun _ _ h2 k cs fr hb => (hg.block k (heap_lt hb) (fun e => own_type9 ho (fun e => h2 e.symm) e.symm cs fr hb)).trans hb,
   fun k es c _ hm => (hg.block k (heap_lt hm) (fun e => by
    rcases ho.2 with ⟨hv, _⟩ | ⟨g, cap, cur, hv, _, hh, _⟩
    · rw [hv] at e; cases e
    · rw [hv] at e
      obtain rfl : k = g := by simpa [Value.ownBlock] using e
      rw [hm] at hh
      cases hh)).trans hm⟩
theorem KeepB.put {P : Program} {k e : TypeId} {κ α : Type} {C : Coding P k e κ α} {m cnt : Nat} {f : κ → Option α} {w w' : World} (h : MapIs C w m cnt f) (hg : w.grownBy w' (some m)) : KeepB m w w' :=
  ⟨fun _ _ _ b cs fr hb => (hg.block b (heap_lt hb) (fun e => h.no_cells cs fr (by rw [← Option.some.inj e]; exact hb))).trans hb,
   fun _ _ _ hb hm => (hg.block _ (heap_lt hm) (fun e => hb (Option.some.inj e))).trans hm⟩
theorem KeepB.set {m q j : Nat} {cs : Array Value} {w : World} (h : Blk w q 74 cs) (u : Value) : KeepB m w (w.setCell ⟨q, j, none⟩ u) :=
  ⟨fun _ h1 _ b cs' fr hb => (Below.heap_setCell w ⟨q, j, none⟩ u b (fun e => Blk.type h (fun e => h1 e.symm) cs' fr (by have e2 : b = q := e; rw [← e2]; exact hb))).trans hb,
   fun b es c _ hm => (Below.heap_setCell w ⟨q, j, none⟩ u b (fun e => by
    subst e
    unfold Blk at h
    rw [hm] at h
    cases h)).trans hm⟩
structure Loop2 (B : Nat) (w wr : World) (q m g cnt j K : Nat) (l : List Fil) (raws : List Bs) (A : Option Addr) (k c : Nat) (An : Option Addr) (nn cn : Nat) (f : Bs → Option Hd) : Prop where
 ents : wr.ownsRow w.heap.size 129 3 (.slice A k c) k (ens (fileEs l ++ (((dirNs l).take j).foldl (stepD K l) ([], raws)).1))
 names : wr.ownsRow w.heap.size 9 1 (.slice An nn cn) nn (strs (dirNs l))
 dirs : DirsAt w.heap.size wr g cnt f (inOf l)
 tree : ∃ A' n' c' hs', BuildAt B wr q m A' n' c' hs' (((dirNs l).take j).foldl (stepD K l) ([], raws)).2
 keep : KeepB m w wr
 below : Below B w wr
 size : w.heap.size ≤ wr.heap.size
 base : B ≤ w.heap.size
 other : g ≠ m
 few : k ≤ 4096 + j
theorem stepD_snoc {K : Nat} {l : List Fil} {j : Nat} {d : Bs} {raws : List Bs} (hd : (dirNs l)[j]? = some d) : ((dirNs l).take (j + 1)).foldl (stepD K l) ([], raws) = stepD K l (((dirNs l).take j).foldl (stepD K l) ([], raws)) d := by
 rw [List.take_add_one, hd, List.foldl_append]
 rfl
theorem es_fine {K : Nat} {l : List Fil} (hl : FineB l) (hk : ∀ f ∈ l, f.1.length < K + 1) (out : List Bs) : FineT ((entsOf l).foldl (stepB K l) ([], out)).1 := by
 rcases K with _ | K
 ·have hl0 : l = [] := by
   rcases l with _ | ⟨f, t⟩
   ·rfl
   ·have h2 := hk f (by simp)
    have h3 := (hl.parts f (by simp)).1
    have h4 : f.1 = [] := List.length_eq_zero_iff.1 (by omega)
    rw [h4] at h3
    exact absurd h3 (by decide)
  subst hl0
  exact fineT_of (by simp [entsOf]) (by simp [RiseT, entsOf]) (by simp [entsOf])
 ·exact build_fine hl (by omega) out
def BuildC (K : Nat) : Prop := ∀ (l : List Fil) (A : Option Addr) (n c : Nat) (w : World) (B q m : Nat) (A0 : Option Addr) (n0 c0 : Nat) (hs : List Hd) (raws : List Bs),
 FineB l → (∀ f ∈ l, f.1.length < K) → 0 < K → raws.length + wgt l + 1 ≤ 1000000000 → Sl w 2 A n (fls l) → BuildAt B w q m A0 n0 c0 hs raws → MaxL w → 0 < B →
 Calls Tryz.prog 30 #[.pointer (some ⟨q, 0, none⟩), .slice A n c] w fun e w' => e = .returned (S (buildL K l raws).1) ∧ (∃ A' n' c' hs', BuildAt B w' q m A' n' c' hs' (buildL K l raws).2) ∧ KeepB m w w' ∧ Below B w w'
set_option maxRecDepth 100000 in
set_option maxHeartbeats 16000000 in
theorem build_succ (K : Nat) (H : BuildC K) : BuildC (K + 1) := by
 intro l A n c w B q m A0 n0 c0 hs raws hl hk _ hroom hA hT hM hgl
 obtain ⟨i0, hi0, hz0, hz1, hz2⟩ := info_parts Tryz.infoEnt3
 obtain ⟨j0, hj0, hy0, hy1, hy2⟩ := info_parts Tryz.infoFil
 obtain ⟨k0, hk0, hx0, hx1, hx2⟩ := info_parts Tryz.infoByt
 have hln := fls_count hA
 have hn : n ≤ 4096 := by rw [← hln]; exact hl.few
 have HA := Lib.hid hA
 have HL := Lib.hid hl
 have HK := Lib.hid hk
 have HT := Lib.hid hT
 have HM := Lib.hid hM
 have Hgl := Lib.hid hgl
 have HH := Lib.hid H
 have Hroom := Lib.hid hroom
 have Hln := Lib.hid hln
 have hmm := @run_makeMap Tryz.prog
 have hm0 := MapIs.made dirsC w
 have Hm0 := Lib.hid hm0
 obtain ⟨g, hg⟩ : ∃ g, g = w.heap.size := ⟨_, rfl⟩
 have Hg := Lib.hid hg
 clear hA hl hk hT hM hgl H hroom hln hm0 hg
 go_enter Tryz.func30, Tryz.ntmps30
 go_wp2
 simp only [← Hg.out]
 have B0 : Hid (Below w.heap.size w (w.alloc (.map #[] 0))) := Lib.hid (balloc (Below.refl _ w) _)
 have H0 : Hid (Loop1 w (w.alloc (.map #[] 0)) g 0 0 l none 0 0 (fun _ => none)) := Lib.hid ⟨Ow.nil_ B0.out, ⟨by have := Hm0.out; rw [← Hg.out] at this; exact this, B0.out.size, by rw [Hg.out]; exact Nat.le_refl _, (fun d x h => by cases h), (fun d _ => by simp [inOf]), (fun d d' x x' h => by cases h)⟩, Nat.le_refl _, Nat.le_refl _⟩
 clear hmm
 go_loopw [6, 8, 9, 10, 11, 21] (fun s6 s8 s9 s10 s11 i wr => ∃ (ix k1 c1 cnt : Nat) (A1 : Option Addr) (f : Bs → Option Hd), i = .int .i64 ix ∧ s6 = .slice A1 k1 c1 ∧ Hid (ix ≤ n) ∧ Hid (Loop1 w wr g cnt ix l A1 k1 c1 f)) (fun _ _ _ _ _ i _ => n - (intOf i).toNat)
 case atStart => exact ⟨0, 0, 0, 0, none, _, rfl, rfl, Lib.hid (Nat.zero_le _), H0⟩
 case round =>
  obtain ⟨ix, k1, c1, cnt, A1, f, rfl, rfl, hi, h1⟩ := hrel
  by_cases hlt : ix < n
  ·obtain ⟨b, off, x, rfl, _, hx, x0, x1⟩ := (HA.out.below h1.out.ents.2).fil hlt
   have Hx := Lib.hid hx
   clear hx
   obtain ⟨p, id⟩ := x
   obtain ⟨W, hW⟩ : ∃ W, W = wr.alloc (.cells #[S p, S id] 61) := ⟨_, rfl⟩
   obtain ⟨g8, hg8⟩ : ∃ g8, g8 = wr.heap.size := ⟨_, rfl⟩
   have b8 : Below wr.heap.size wr W := by rw [hW]; exact balloc (Below.refl _ wr) _
   have HB8 : Hid (Blk W g8 61 #[S p, S id]) := Lib.hid (by rw [hW, hg8]; exact Blk.new wr _ _)
   have H1 := Lib.hid (h1.out.step b8)
   have hp : p.length ≤ 150 := (HL.out.parts _ (List.mem_of_getElem? Hx.out)).2
   have C1 := Lib.hid (cut_any p W (by omega) (HM.out.step (h1.out.ents.2.trans (b8.mono h1.out.ents.2.size))))
   have Hp := Lib.hid hp
   have y8 := HB8.out.cell
   clear hp b8
   go_wp2_with fail
   simp only [← hg8]
   rw [← hW]
   have Hg8 := Lib.hid hg8
   clear hW hg8
   refine C1.out.mono ?_
   rintro e w2 ⟨rfl, ⟨q2, hq2⟩⟩
   have b2 : Below W.heap.size W w2 := by rw [hq2]; exact below_drewN (Below.refl _ W) q2
   have HB2 := Lib.hid (HB8.out.step b2)
   have H2 := Lib.hid (H1.out.step b2)
   clear y8 hq2 b2 C1
   have y8 := HB2.out.cell
   rcases hc : (cutS p).2 with _ | r
   ·have HX : Hid (fileEs (l.take (ix + 1)) = fileEs (l.take ix) ++ [((cutS p).1, false, id)]) := Lib.hid (by rw [fileEs_snoc Hx.out, entOf_no hc]; rfl)
    have HD : Hid (inOf (l.take (ix + 1)) = inOf (l.take ix)) := Lib.hid (by funext d; rw [inOf_snoc Hx.out, hc])
    obtain ⟨nm, hnm⟩ : ∃ nm, nm = (cutS p).1 := ⟨_, rfl⟩
    rw [← hnm] at HX ⊢
    clear hc hnm
    have q1 : k1 + 1 ≤ maxLen := by have := H2.out.few; simp only [maxLen]; omega
    have q3 : (k1 + 1) * 40 ≤ 140737488355328 := by have := H2.out.few; omega
    have HO6 := Lib.hid (H2.out.ents.alloc (.cells #[S nm, .bool false, S id] 129))
    have HD6 := Lib.hid (H2.out.dirs.step (balloc (Below.refl _ w2) (.cells #[S nm, .bool false, S id] 129)))
    have HS6 := Lib.hid (sl_ent3 w2 129 (nm, false, id))
    go_wp2_with (at_builtin; refine wpList_append_sl _ rfl (.tmp 34) (.tmp 39) _ rfl w 129 i0 _ 3 40 Tryz.underlying94 hi0 hz0 hz1 hz2 rfl (by decide) A1 k1 c1 _ rfl HO6.out _ 1 1 (ens [(nm, false, id)]) rfl HS6.out (one_ens _) q1 q3 ?_; intro A5 c5 w5 hO5 hg5 hat5; have HO5 := Lib.hid hO5; have HD5 := Lib.hid (HD6.out.grown HO6.out.1 (by decide) hg5); clear hO5 hg5 hat5)
    have H5 : Hid (Loop1 w w5 g cnt (ix + 1) l A5 (k1 + 1) c5 f) := Lib.hid ⟨by rw [HX.out, ens_append]; exact HO5.out, by rw [HD.out]; exact HD5.out, by have := H2.out.cnt; omega, by have := H2.out.few; omega⟩
    go_roundw
    case rel => exact ⟨ix + 1, k1 + 1, c5, cnt, A5, f, by go_num, rfl, Lib.hid hlt, H5⟩
    case measure => simp [intOf]; omega
   ·have HX : Hid (fileEs (l.take (ix + 1)) = fileEs (l.take ix)) := Lib.hid (by rw [fileEs_snoc Hx.out, entOf_so hc]; rfl)
    have HD : Hid (inOf (l.take (ix + 1)) = fun d => if d = (cutS p).1 then inOf (l.take ix) (cutS p).1 ++ [(r, id)] else inOf (l.take ix) d) := Lib.hid (by
     funext d
     rw [inOf_snoc Hx.out, hc]
     simp only
     by_cases hd : (cutS p).1 = d
     ·subst hd
      simp
     ·rw [if_neg hd, if_neg (fun e => hd e.symm)])
    have hgd : (cutS p).1.length ≤ maxLen := by
     have h9 := congrArg List.length (cutS_some hc).1
     have h8 := Hp.out
     rw [List.length_append, List.length_cons] at h9
     exact Nat.le_trans (by omega : (cutS p).1.length ≤ 150) (by decide)
    have Hgd := Lib.hid hgd
    simp only [Option.getD_some, Option.isSome_some]
    obtain ⟨nm, hnm⟩ : ∃ nm, nm = (cutS p).1 := ⟨_, rfl⟩
    rw [← hnm] at HD Hgd ⊢
    clear hc hnm hgd
    obtain ⟨hd, hhd⟩ : ∃ hd : Hd, hd = (f nm).getD ⟨none, 0, 0⟩ := ⟨_, rfl⟩
    have Hhd := Lib.hid hhd
    have Hkv : Hid (dirsC.vv ((f nm).getD ⟨none, 0, 0⟩) = .slice hd.a hd.n hd.c) := Lib.hid (by rw [hhd]; rfl)
    have HRW : Hid (w2.ownsRow w.heap.size 61 2 (.slice hd.a hd.n hd.c) hd.n (fls (inOf (l.take ix) nm)) ∧ hd.n ≤ 5000) := Lib.hid (by
     rcases hf : f nm with _ | h0
     ·rw [hf] at hhd
      rw [hhd, H2.out.dirs.empty nm hf]
      exact ⟨World.ownsRow_nil _ _ _ _, Nat.zero_le _⟩
     ·rw [hf] at hhd
      obtain rfl : hd = h0 := hhd
      obtain ⟨r1, r2, _⟩ := H2.out.dirs.rows nm hd hf
      refine ⟨r1, ?_⟩
      rw [r2]
      refine Nat.le_trans (List.length_filterMap_le _ _) (Nat.le_trans (List.length_take_le _ _) ?_)
      omega)
    clear hhd
    have hcm : cnt < maxLen := Nat.lt_of_le_of_lt (Nat.le_trans H2.out.cnt (by omega : ix ≤ 5000)) (by decide)
    have q1 : hd.n + 1 ≤ maxLen := Nat.le_trans (by have := HRW.out.2; omega : hd.n + 1 ≤ 5001) (by decide)
    have q3 : (hd.n + 1) * 32 ≤ 140737488355328 := by have := HRW.out.2; omega
    have HO6 : Hid (Ow w (w2.alloc (.cells #[S r, S id] 61)) 61 2 hd.a hd.n hd.c (fls (inOf (l.take ix) nm))) := Lib.hid (Ow.alloc ⟨HRW.out.1, H2.out.ents.2⟩ _)
    have HS6 := Lib.hid (sl_fil w2 61 (r, id))
    have hM2 := H2.out.dirs.map
    go_wp2_with (first
     | (at_lookup; refine wpList_look _ rfl _ _ 133 rfl dirsC Tryz.underlying133 ⟨none, 0, 0⟩ (Tryz.zeroDirs _) g cnt f rfl hM2 nm rfl Hgd.out ?_; rw [Hkv.out]; clear hM2)
     | (at_builtin; refine wpList_append_sl _ rfl (.tmp 45) (.tmp 50) _ rfl w 61 j0 _ 2 32 Tryz.underlying28 hj0 hy0 hy1 hy2 rfl (by decide) hd.a hd.n hd.c _ rfl HO6.out _ 1 1 (fls [(r, id)]) rfl HS6.out (one_fls _) q1 q3 ?_; intro A5 c5 w5 hO5 hg5 hat5; obtain ⟨gg, rfl, hgg0, hgg⟩ := hO5.form (by omega); have HO5 := Lib.hid hO5; have HG5 := Lib.hid hg5; have HAT := Lib.hid hat5; have hM5 := (H2.out.dirs.map.alloc (.cells #[S r, S id] 61)).grown hg5 (fun e => (H2.out.dirs.map.alloc (.cells #[S r, S id] 61)).ne_own HO6.out.1 e); clear hO5 hg5 hat5)
     | (at_mapUpdate; refine wpList_store _ rfl _ _ _ 133 rfl dirsC Tryz.underlying133 g cnt f rfl hM5 hcm nm rfl Hgd.out ⟨some (gg, 0), hd.n + 1, c5⟩ rfl ?_; intro w7 hM7 hg7; have HM7 := Lib.hid hM7; have HG7 := Lib.hid hg7; clear hM7 hg7 hM5))
    have HE7 : Hid (Ow w w7 129 3 A1 k1 c1 (ens (fileEs (l.take ix)))) := Lib.hid (((H2.out.ents.alloc (.cells #[S r, S id] 61)).grown HG5.out (own_apart (H2.out.ents.alloc (.cells #[S r, S id] 61)).1 HO6.out.1 (by decide)) (fun k hk => (HO6.out.1.lt k hk).1)).grown HG7.out (.inr (fun e => H2.out.dirs.map.ne_own H2.out.ents.1 e.symm)) (fun k e => by cases e; rw [Hg.out]; exact Nat.le_refl _))
    have HD7 := Lib.hid ((H2.out.dirs.step (balloc (Below.refl _ w2) (.cells #[S r, S id] 61))).put (key := nm) (hd := hd) (hd' := ⟨some (gg, 0), hd.n + 1, c5⟩) (x := (r, id)) Hhd.out HG5.out (by rw [fls_append]; exact HO5.out.1) rfl HAT.out HG7.out HM7.out)
    have H7 : Hid (Loop1 w w7 g (cnt + 1) (ix + 1) l A1 k1 c1 (upd f nm (some ⟨some (gg, 0), hd.n + 1, c5⟩))) := Lib.hid ⟨by rw [HX.out]; exact HE7.out, by rw [HD.out]; exact HD7.out, by have := H2.out.cnt; omega, by have := H2.out.few; omega⟩
    clear HE7 HD7
    go_roundw
    case rel => exact ⟨ix + 1, k1, c1, cnt + 1, A1, _, by go_num, rfl, Lib.hid hlt, H7⟩
    case measure => simp [intOf]; omega
  ·obtain rfl : ix = n := by have := hi.out; omega
   have hall : l.take ix = l := List.take_of_length_le (by rw [Hln.out]; exact Nat.le_refl _)
   have H1 := h1.out
   obtain ⟨hE, hD, hcn, hfw⟩ := H1
   rw [hall] at hE hD
   obtain ⟨lst, hL, hP⟩ := dirs_list hD HL.out
   have hlen : lst.length ≤ 4096 := by
    have h8 := hP.length_eq
    rw [List.length_map] at h8
    rw [h8]
    unfold dirNs
    rw [List.length_map]
    exact Nat.le_trans (List.length_filter_le _ _) (Nat.le_trans (entsOf_len l) HL.out.few)
   obtain ⟨W, hW⟩ : ∃ W, W = wr.alloc (.cells #[.map (some g)] 133) := ⟨_, rfl⟩
   have bW : Below wr.heap.size wr W := by rw [hW]; exact balloc (Below.refl _ wr) _
   have C1 := Lib.hid (keysD_any g wr)
   have C2 := Lib.hid (sortedSD_any W wr.heap.size g cnt lst (by omega) (by rw [hW]; exact (Blk.new wr _ #[.map (some g)]).cell 0) (by rw [hW]; exact hL.alloc _))
   have HE := Lib.hid (hE.keep bW)
   have HD := Lib.hid (hD.step bW)
   have HP := Lib.hid hP
   have HW := Lib.hid hW
   have Hfw := Lib.hid hfw
   have Hll := Lib.hid hlen
   clear hall hE hD hcn hfw hL hP hlen bW hW h1 B0
   go_wp2_with fail
   refine C1.out.mono ?_
   rintro e w3 ⟨rfl, hw3⟩
   have e3 : w3 = W := hw3.trans HW.out.symm
   subst e3
   clear hw3 C1
   go_wp2_with fail
   refine C2.out.mono ?_
   rintro e w4 ⟨An, cn, xs, rfl, hxs, hO4⟩
   have hxp : (sortS xs).Perm (dirNs l) := (sortS_perm xs).trans (hxs.trans HP.out)
   have hse : sortS xs = dirNs l := sorted_is (fun x => x) (by rw [List.map_id']; exact (sortS_le xs).imp (fun h => List.not_lt.2 h)) hxp (by rw [List.map_id']; exact dirNs_rise l)
   rw [hse] at hO4
   have hnn : lst.length = (dirNs l).length := by have h8 := HP.out.length_eq; rwa [List.length_map] at h8
   have H4 : Hid (Loop2 B w w4 q m g cnt 0 K l raws A1 k1 c1 An lst.length cn f) := Lib.hid (by
    have b4 : Below w3.heap.size w3 w4 := hO4.2
    have bw := HE.out.2.trans (b4.mono HE.out.2.size)
    have hbw : B ≤ w.heap.size := HT.out.base
    refine ⟨?_, own_mono hO4.1 HE.out.2.size, HD.out.step b4, ⟨A0, n0, c0, hs, HT.out.step bw⟩, .of_below bw, bw.mono hbw, bw.size, hbw, fun e => ?_, ?_⟩
    ·rw [List.take_zero, List.foldl_nil, List.append_nil]
     exact (HE.out.keep b4).1
    ·have h9 := HT.out.map.lt
     have h8 := Hg.out
     omega
    ·have := Hfw.out
     omega)
   have Hnn := Lib.hid hnn
   clear hxs hxp hse hO4 hnn C2 HP HE HD HW Hfw
   obtain ⟨nn, hnn⟩ : ∃ nn, nn = lst.length := ⟨_, rfl⟩
   rw [← hnn] at H4 Hnn Hll ⊢
   clear hnn
   go_wp2
   go_loopw [6, 13, 57] (fun s6 s13 j wr => ∃ (jx k1 c1 : Nat) (A1 : Option Addr), j = .int .i64 jx ∧ s6 = .slice A1 k1 c1 ∧ Hid (jx ≤ nn) ∧ Hid (Loop2 B w wr q m g cnt jx K l raws A1 k1 c1 An nn cn f)) (fun _ _ j _ => nn - (intOf j).toNat)
   case atStart => exact ⟨0, k1, c1, A1, rfl, rfl, Lib.hid (Nat.zero_le _), H4⟩
   case round =>
    obtain ⟨jx, k1, c1, A1, rfl, rfl, hj, h2⟩ := hrel
    by_cases hjn : jx < nn
    ·obtain ⟨b, off, d, rfl, hd, x0⟩ := (Sl.of_own h2.out.names).str hjn
     have hdm := (mem_dirNs HL.out d).1 ((List.mem_of_getElem? hd))
     have hdl : d.length ≤ maxLen := by
      obtain ⟨y, hy⟩ := List.exists_mem_of_ne_nil _ hdm
      obtain ⟨h4, _⟩ := inOf_mem (l := l) (d := d) (r := y.1) (i := y.2) hy
      have h5 := (HL.out.parts _ h4).2
      simp only [List.length_append, List.length_cons] at h5
      exact Nat.le_trans (by omega : d.length ≤ 150) (by decide)
     obtain ⟨hh, hf⟩ : ∃ hh, f d = some hh := by
      rcases hf : f d with _ | hh
      ·exact absurd (h2.out.dirs.empty d hf) hdm
      ·exact ⟨hh, rfl⟩
     obtain ⟨r1, r2, _⟩ := h2.out.dirs.rows d hh hf
     have hKlen := inOf_len HK.out (d := d)
     have hK0 : 0 < K := by
      obtain ⟨y, hy⟩ := List.exists_mem_of_ne_nil _ hdm
      have := hKlen y hy
      omega
     obtain ⟨A', n', c', hs', hT'⟩ := h2.out.tree
     have hroom := stepD_room K l HL.out raws jx hd
     have hMr : MaxL wr := by
      obtain ⟨z, hz⟩ := HM.out
      exact ⟨z, (h2.out.below.cell (p := ⟨0, 0, none⟩) Hgl.out).trans hz⟩
     have CB := Lib.hid (HH.out (inOf l d) hh.a hh.n hh.c wr B q m A' n' c' hs' _ (HL.out.inOf d) hKlen hK0 (by have := Hroom.out; omega) (Sl.of_own r1) hT' hMr Hgl.out)
     have Hkv : Hid (dirsC.vv ((f d).getD ⟨none, 0, 0⟩) = .slice hh.a hh.n hh.c) := Lib.hid (by rw [hf]; rfl)
     have Hdl := Lib.hid hdl
     have Hd := Lib.hid hd
     have hM2 := h2.out.dirs.map
     clear hdm hdl hf r1 r2 hKlen hK0 hroom hMr hT' hd
     go_wp2_with (at_lookup; refine wpList_look _ rfl _ _ 133 rfl dirsC Tryz.underlying133 ⟨none, 0, 0⟩ (Tryz.zeroDirs _) g cnt f rfl hM2 d rfl Hdl.out ?_; rw [Hkv.out]; clear hM2)
     refine CB.out.mono ?_
     rintro e w5 ⟨rfl, ⟨A5, n5, c5, hs5, hT5⟩, hK5, hB5⟩
     obtain ⟨Q, hQ⟩ : ∃ Q, Q = ((dirNs l).take jx).foldl (stepD K l) ([], raws) := ⟨_, rfl⟩
     obtain ⟨R, hR⟩ : ∃ R, R = ((dirNs l).take (jx + 1)).foldl (stepD K l) ([], raws) := ⟨_, rfl⟩
     have hE := h2.out.ents
     rw [← hQ] at hT5 hE ⊢
     obtain ⟨id5, hid5⟩ : ∃ id5, id5 = (buildL K (inOf l d) Q.2).1 := ⟨_, rfl⟩
     have hR2 : R = (Q.1 ++ [(d, true, id5)], (buildL K (inOf l d) Q.2).2) := by rw [hR, stepD_snoc Hd.out, ← hQ, hid5]; rfl
     rw [← hid5]
     have HE5 := Lib.hid (hK5.own (by decide) (by decide) hE)
     have HN5 := Lib.hid (hK5.own (by decide) (by decide) h2.out.names)
     have HD5 := Lib.hid (h2.out.dirs.keep hK5 h2.out.other hB5.size)
     have HT5 := Lib.hid hT5
     have HK5 := Lib.hid (h2.out.keep.trans hK5)
     have HB5 := Lib.hid (h2.out.below.trans hB5)
     have Hs5 : Hid (w.heap.size ≤ w5.heap.size) := Lib.hid (Nat.le_trans h2.out.size hB5.size)
     have Hfix : Hid (B ≤ w.heap.size ∧ g ≠ m ∧ k1 ≤ 4096 + jx) := Lib.hid ⟨h2.out.base, h2.out.other, h2.out.few⟩
     have HR2 := Lib.hid hR2
     have HR := Lib.hid hR
     have hnn9 : nn ≤ 4096 := Hll.out
     have q1 : k1 + 1 ≤ maxLen := Nat.le_trans (by have := Hfix.out.2.2; omega : k1 + 1 ≤ 10000) (by decide)
     have q3 : (k1 + 1) * 40 ≤ 140737488355328 := by have := Hfix.out.2.2; omega
     have ba := balloc (Below.refl _ w5) (.cells #[S d, .bool true, S id5] 129)
     have HO6 := Lib.hid (ow_of (own_stepP HE5.out ba) (Nat.le_trans Hs5.out ba.size))
     have HS6 := Lib.hid (sl_ent3 w5 129 (d, true, id5))
     have HBA := Lib.hid ba
     clear hE hT5 hK5 hB5 h2 CB hQ hid5 hR2 hR ba
     go_wp2_with (at_builtin; refine wpList_append_sl _ rfl (.tmp 61) (.tmp 69) _ rfl _ 129 i0 _ 3 40 Tryz.underlying94 hi0 hz0 hz1 hz2 rfl (by decide) A1 k1 c1 _ rfl HO6.out _ 1 1 (ens [(d, true, id5)]) rfl HS6.out (one_ens _) q1 q3 ?_; intro A7 c7 w7 hO7 hg7 hat7; have HO7 := Lib.hid hO7; have HG7 := Lib.hid hg7; clear hO7 hg7 hat7)
     have H7 : Hid (Loop2 B w w7 q m g cnt (jx + 1) K l raws A7 (k1 + 1) c7 (some ⟨b, off, none⟩) nn cn f) := Lib.hid (by
      have hO := HO6.out.1
      have hO7 := HO7.out.1
      rw [baseW_size (Nat.le_trans Hs5.out HBA.out.size)] at hO hO7
      have hlow : ∀ k, (Value.slice A1 k1 c1).ownBlock = some k → w.heap.size ≤ k := fun k hk => (hO.lt k hk).1
      have hsz : w.heap.size ≤ (w5.alloc (.cells #[S d, .bool true, S id5] 129)).heap.size := Nat.le_trans Hs5.out HBA.out.size
      refine ⟨?_, (own_stepP HN5.out HBA.out).kept HG7.out (own_apart (own_stepP HN5.out HBA.out) hO (by decide)), (HD5.out.step HBA.out).grown hO (by decide) HG7.out, ?_, (HK5.out.step HBA.out).grown hsz HG7.out hlow, ?_, Nat.le_trans hsz HG7.out.size, Hfix.out.1, Hfix.out.2.1, by have := Hfix.out.2.2; omega⟩
      ·rw [← HR.out, HR2.out, ← List.append_assoc, ens_append]
       exact hO7
      ·rw [← HR.out, HR2.out]
       exact ⟨A5, n5, c5, hs5, (HT5.out.step HBA.out).grown hO (by decide) (by decide) (by decide) HG7.out⟩
      ·exact (HB5.out.trans (HBA.out.mono (Nat.le_trans Hfix.out.1 Hs5.out))).grown HG7.out (Nat.le_trans Hfix.out.1 hsz) (fun k hk => Nat.le_trans Hfix.out.1 (hlow k hk)))
     clear HE5 HN5 HD5 HT5 HK5 HB5 HO6 HO7 HG7 HS6
     go_roundw
     case rel => exact ⟨jx + 1, k1 + 1, c7, A7, by go_num, rfl, Lib.hid hjn, H7⟩
     case measure => simp [intOf]; omega
    ·obtain rfl : jx = nn := by have := hj.out; omega
     have hk1 : k1 ≤ 1000000 := by have := h2.out.few; have := Hll.out; omega
     have CS := Lib.hid (sortEnt_any _ wr A1 k1 c1 _ (ow_of h2.out.ents h2.out.size) hk1)
     go_wp2_with fail
     refine CS.out.mono ?_
     rintro e w3 ⟨rfl, s, hsp, hss, hO3, hg3⟩
     rw [Hnn.out, List.take_length] at hsp
     obtain ⟨hs1, hs2⟩ := prog_ents HL.out K raws hss hsp
     obtain ⟨es, hes⟩ : ∃ es, es = ((entsOf l).foldl (stepB K l) ([], raws)).1 := ⟨_, rfl⟩
     obtain ⟨out, hout⟩ : ∃ out, out = ((entsOf l).foldl (stepB K l) ([], raws)).2 := ⟨_, rfl⟩
     have hfine : FineT es := by rw [hes]; exact es_fine HL.out HK.out raws
     have hB9 : buildL (K + 1) l raws = (sumL (encT es), addR out (encT es)) := by rw [hes, hout, buildL_succ]
     rw [← hes] at hs1
     rw [← hout] at hs2
     rw [hs1] at hO3
     obtain ⟨A3, n3, c3, hs3, hT3⟩ := h2.out.tree
     rw [Hnn.out, List.take_length, hs2] at hT3
     have hlow : ∀ k, (Value.slice A1 k1 c1).ownBlock = some k → w.heap.size ≤ k := fun k hk => (h2.out.ents.lt k hk).1
     have HT3 := Lib.hid (hT3.grown h2.out.ents (by decide) (by decide) (by decide) hg3)
     have HK3 := Lib.hid (h2.out.keep.grown h2.out.size hg3 hlow)
     have HB3 := Lib.hid (h2.out.below.grown hg3 (Nat.le_trans h2.out.base h2.out.size) (fun k hk => Nat.le_trans h2.out.base (hlow k hk)))
     have Hs3 : Hid (w.heap.size ≤ w3.heap.size) := Lib.hid (Nat.le_trans h2.out.size hg3.size)
     have hlk : es.length = k1 := ens_count hO3.sl
     have hel := encT_len hfine
     have Hr0 : Hid (0 < (encT es).length) := Lib.hid (by unfold encT; simp)
     have CE := Lib.hid (treeEnc_ok A1 k1 c1 es w3 hO3.sl (by omega) (by omega) (by rw [← hlk]; exact hfine.1))
     have HB9 := Lib.hid hB9
     obtain ⟨raw, hraw⟩ : ∃ raw, raw = encT es := ⟨_, rfl⟩
     rw [← hraw] at HB9 CE hel Hr0
     have hol : out.length ≤ 1000000000 := by
      have h8 := buildL_len (K + 1) l raws HL.out
      rw [HB9.out] at h8
      have h7 : out.length ≤ (addR out raw).length := by unfold addR; split <;> simp
      have h6 := Hroom.out
      simp only at h8
      omega
     have Hel := Lib.hid hel
     have Hol := Lib.hid hol
     clear hsp hss hO3 hg3 hs1 hs2 hfine hB9 hT3 hlow hlk hel hol h2 CS hes hout hraw H4 Hnn
     go_wp2_with fail
     refine CE.out.mono ?_
     rintro e w4 ⟨A4, c4, rfl, hO4⟩
     have HT4 := Lib.hid (HT3.out.step hO4.2)
     have HK4 := Lib.hid (HK3.out.step hO4.2)
     have HB4 := Lib.hid (HB3.out.trans (hO4.2.mono HT3.out.base))
     have Hs4 : Hid (w.heap.size ≤ w4.heap.size) := Lib.hid (Nat.le_trans Hs3.out hO4.2.size)
     have HS4 : Hid (SlT (fun _ => True) 5 w4 1 A4 raw.length (u8s raw) ∧ raw.length ≤ c4) := Lib.hid ⟨hO4.slT.weak (fun _ _ _ => trivial), hO4.cap.1⟩
     clear hO4 CE HT3 HK3 HB3 Hs3
     have yq := HT4.out.blk.cell
     have hcv := fun V (hV : Sl V 1 A4 raw.length (u8s raw)) => run_conv_str (P := Tryz.prog) V 38 9 5 A4 raw.length c4 raw Tryz.underlying38 Tryz.underlying5 Tryz.underlying9 hV
     have hc1 := hcv w4.drew HS4.out.1.sl
     have hgr : raw.length ≤ maxLen := Nat.le_trans Hel.out (by decide)
     have hl0 := HT4.out.map.drew.run_look_ok Tryz.underlying72 (a0 := []) (Tryz.zeroS _) (x := raw) hgr
     by_cases hin : raw ∈ out
     ·have hl1 : (Instr.lookup 72 (.map (some m)) (S raw) true).run Tryz.prog w4.drew = .ok (.tuple #[S (sumL raw), .bool true]) w4.drew := by
       have e : metF out raw = some (sumL raw) := by unfold metF; rw [if_pos hin]
       rw [e] at hl0
       exact hl0
      have HB8 : Hid (buildL (K + 1) l raws = (sumL raw, out)) := Lib.hid (by rw [HB9.out]; unfold addR; rw [if_pos hin])
      clear hl0 hin
      go_wp2
      go_region
      go_wp2
      go_ret
      rw [HB8.out]
      exact ⟨rfl, ⟨A3, n3, c3, hs3, HT4.out.step (Below.refl _ _).drew⟩, HK4.out.step (Below.refl _ _).drew, HB4.out.drew⟩
     ·have hl1 : (Instr.lookup 72 (.map (some m)) (S raw) true).run Tryz.prog w4.drew = .ok (.tuple #[S [], .bool false]) w4.drew := by
       have e : metF out raw = none := by unfold metF; rw [if_neg hin]
       rw [e] at hl0
       exact hl0
      have HB8 : Hid (buildL (K + 1) l raws = (sumL raw, out ++ [raw])) := Lib.hid (by rw [HB9.out]; unfold addR; rw [if_neg hin])
      clear hl0 hin
      go_wp2
      go_region
      have C5 := Lib.hid (sum_any w4.drew A4 raw.length c4 raw (HS4.out.1.step (Below.refl _ _).drew) (Nat.le_trans Hel.out (by decide)))
      go_wp2_with fail
      refine C5.out.mono ?_
      rintro e w5 ⟨rfl, b5⟩
      have b5' : Below w4.heap.size w4 w5 := (Below.refl _ w4).drew.trans b5
      have HT5 := Lib.hid (HT4.out.step b5')
      have HK5 := Lib.hid (HK4.out.step b5')
      have HB5 := Lib.hid (HB4.out.trans (b5'.mono HT4.out.base))
      have Hs5 : Hid (w.heap.size ≤ w5.heap.size) := Lib.hid (Nat.le_trans Hs4.out b5'.size)
      have HS5 : Hid (SlT (fun _ => True) 5 w5 1 A4 raw.length (u8s raw) ∧ raw.length ≤ c4) := Lib.hid ⟨HS4.out.1.step b5', HS4.out.2⟩
      clear b5 b5' C5 HT4 HK4 HB4 Hs4 HS4 hc1 hl1 yq
      have yq := HT5.out.blk.cell
      have hc5 := hcv w5.drew HS5.out.1.sl
      obtain ⟨w6, hrun6, hm6, hg6⟩ := HT5.out.map.drew.run_store Tryz.underlying72 (Nat.lt_of_le_of_lt Hol.out (by decide)) (x := raw) hgr (sumL raw)
      have hst : (Instr.mapUpdate 72 (.map (some m)) (S raw) (S (sumL raw))).run Tryz.prog w5.drew = .ok () w6 := hrun6
      have HM6 := Lib.hid hm6
      have HG6 := Lib.hid hg6
      clear hrun6 hm6 hg6
      go_wp2
      go_region
      clear hst hc5 hcv yq
      have hbq : Blk w6 q 74 #[.slice A3 n3 c3, .map (some m)] := (HG6.out.block q HT5.out.blk.lt (fun e => HT5.out.ne (Option.some.inj e).symm)).trans HT5.out.blk
      have hrow6 : w6.ownsRow B 38 1 (.slice A3 n3 c3) n3 (hs3.map Hd.v) := (own_stepP HT5.out.own (Below.refl _ _).drew).kept HG6.out (.inr (fun e => HT5.out.map.ne_own HT5.out.own e.symm))
      have hbs : B ≤ w6.heap.size := Nat.le_trans HT5.out.base HG6.out.size
      have ba := balloc (Below.refl _ w6) (.cells #[.slice A4 raw.length c4] 38)
      have hn3 : n3 = out.length := HT5.out.count
      have q1 : n3 + 1 ≤ maxLen := Nat.le_trans (by have := Hol.out; omega : n3 + 1 ≤ 1000000001) (by decide)
      have q3 : (n3 + 1) * 24 ≤ 140737488355328 := by have := Hol.out; omega
      have HO6 := Lib.hid (ow_of (own_stepP hrow6 ba) (Nat.le_trans hbs ba.size))
      have HS6 := Lib.hid (sl_one w6 38 (.slice A4 raw.length c4))
      have HQ6 := Lib.hid hbq
      have yq := hbq.cell
      have HBs := Lib.hid hbs
      have Hn3 := Lib.hid hn3
      clear hbq hrow6 hbs ba hn3
      go_wp2_with (at_builtin; refine wpList_append_sl _ rfl (.tmp 105) (.tmp 107) _ rfl _ 38 k0 _ 1 24 Tryz.underlying24 hk0 hx0 hx1 hx2 rfl (by decide) A3 n3 c3 _ rfl HO6.out _ 1 1 [.slice A4 raw.length c4] rfl HS6.out (one_one rfl) q1 q3 ?_; intro A8 c8 w8 hO8 hg8 hat8; have HO8 := Lib.hid hO8; have HG8 := Lib.hid hg8; have HQ8 := Lib.hid (((HQ6.out.alloc (.cells #[.slice A4 raw.length c4] 38)).grown hg8 (row_ne HO6.out (HQ6.out.alloc _) (by decide)))); have y8 := HQ8.out.cell; have f8 := HQ8.out.frozen; clear hO8 hg8 hat8 yq)
      have HO9 : Hid (w8.ownsRow B 38 1 (.slice A8 (n3 + 1) c8) (n3 + 1) (hs3.map Hd.v ++ [.slice A4 raw.length c4])) := Lib.hid (by
       have h9 := HO8.out.1
       rwa [baseW_size (Nat.le_trans HBs.out (balloc (Below.refl _ w6) _).size)] at h9)
      have HO7 : Hid ((w6.alloc (.cells #[.slice A4 raw.length c4] 38)).ownsRow B 38 1 (.slice A3 n3 c3) n3 (hs3.map Hd.v)) := Lib.hid (by
       have h9 := HO6.out.1
       rwa [baseW_size (Nat.le_trans HBs.out (balloc (Below.refl _ w6) _).size)] at h9)
      generalize hW9 : w8.setCell ⟨q, 0, none⟩ (.slice A8 (n3 + 1) c8) = W9
      go_ret
      rw [HB8.out]
      have bd := (Below.refl w5.heap.size w5).drew
      have ba := balloc (Below.refl _ w6) (.cells #[.slice A4 raw.length c4] 38)
      have hK9 : KeepB m w5 W9 := by
       rw [← hW9]
       exact (((((KeepB.of_below bd).trans (KeepB.put HT5.out.map.drew HG6.out)).step ba).trans (KeepB.row HO7.out HG8.out))).trans (KeepB.set HQ8.out _)
      have hKu : KeepT 5 w5 W9 := hK9.1 _ (by decide) (by decide)
      have hlo := HT5.out.lo
      have hB9 : Below B w W9 := by
       rw [← hW9]
       exact (((((HB5.out.trans (bd.mono HT5.out.base)).grown HG6.out HT5.out.base (fun k e => by cases e; exact hlo.2)).trans (ba.mono HBs.out)).grown HG8.out (Nat.le_trans HBs.out ba.size) (fun k hk => (HO7.out.lt k hk).1))).setCell hlo.1 _
      have hs9 : B ≤ W9.heap.size := by rw [← hW9, setCell_size]; exact Nat.le_trans (Nat.le_trans HBs.out ba.size) HG8.out.size
      obtain ⟨b4, o4, hA4, _⟩ := HS5.out.1.sl.2 Hr0.out
      refine ⟨rfl, ⟨A8, n3 + 1, c8, hs3 ++ [⟨some (b4, o4), raw.length, c4⟩], ?_, ?_, ?_, ?_, hs9, hlo⟩, HK5.out.trans hK9, hB9⟩
      ·rw [← hW9]
       have := HQ8.out.set_ 0 (.slice A8 (n3 + 1) c8)
       simpa using this
      ·rw [← hW9, List.map_append]
       have e : [(⟨some (b4, o4), raw.length, c4⟩ : Hd)].map Hd.v = [.slice A4 raw.length c4] := by rw [hA4]; rfl
       rw [e]
       exact own_far HO9.out (fun e => own_no_blk HO9.out HQ8.out (by decide) e.symm) _
      ·rw [← hW9, ← metF_snoc, List.length_append]
       exact ((HM6.out.step ba).grown HG8.out (fun e => (HM6.out.step ba).ne_own HO7.out e)).far HT5.out.ne _
      ·exact (HT5.out.rows.keep hKu).snoc (by
        have h9 := HS5.out.1.keep hKu
        rw [hA4] at h9
        exact h9) HS5.out.2
theorem build_any : ∀ K, BuildC K := by
 intro K
 induction K with
 | zero => intro l A n c w B q m A0 n0 c0 hs raws _ _ h; exact absurd h (by omega)
 | succ K ih => exact build_succ K ih
end Go.Proofs.YtcednfmkiaelnaaGreatDoor

/-
  Texts merged: PairDel, PairMat, PairRead, PairPair, PairExactG. What each law says and asks stands at its head.
-/
import Derived.Test.YtphnfcgdpdimbaaGreatDoorRKitPm
import Derived.Test.YtphnfcgdpdimbaaGreatDoorRKitSt
import Derived.Test.YtphnfcgdpdimbaaGreatDoorRKitRn
import Derived.Test.YtphnfcgdpdimbaaGreatDoorRKitLc
import Derived.Deep.RegionLaw
namespace Go.Proofs.YtphnfcgdpdimbaaGreatDoor
open Go.RowKit
def setL : List Value → Nat → List Value → List Value
 | xs, _, [] => xs
 | xs, o, v :: r => setL (xs.set o v) (o + 1) r
theorem setL_len : ∀ (vs : List Value) (xs : List Value) (o : Nat), (setL xs o vs).length = xs.length
 | [], _, _ => rfl
 | v :: r, xs, o => by rw [setL, setL_len r]; simp
theorem setL_at : ∀ (vs : List Value) (xs : List Value) (o j : Nat), j < xs.length → (setL xs o vs)[j]? = if o ≤ j ∧ j < o + vs.length then vs[j - o]? else xs[j]?
 | [], xs, o, j, _ => by
  rw [setL, if_neg (fun h => by have := h.1; have := h.2; simp only [List.length_nil] at this; omega)]
 | v :: r, xs, o, j, hj => by
  rw [setL, setL_at r (xs.set o v) (o + 1) j (by simpa using hj)]
  by_cases h1 : j = o
  ·subst h1
   rw [if_neg (by omega), if_pos (by simp), List.getElem?_set_self (by simpa using hj)]
   simp
  ·by_cases h2 : o + 1 ≤ j ∧ j < o + 1 + r.length
   ·rw [if_pos h2, if_pos (by simp; omega)]
    rw [show j - o = (j - (o + 1)) + 1 by omega]
    rfl
   ·rw [if_neg h2, if_neg (by simp; omega), List.getElem?_set_ne (by omega)]
theorem own_setCells {base sz n c g : Nat} {e : TypeId} : ∀ (vs : List Value) (xs : List Value) (o : Nat) (w : World), w.ownsRow base e sz (.slice (some ⟨g, 0, none⟩) n c) n xs → (w.setCells g o vs).ownsRow base e sz (.slice (some ⟨g, 0, none⟩) n c) n (setL xs o vs)
 | [], _, _, _, h => h
 | v :: r, xs, o, _, h => own_setCells r (xs.set o v) (o + 1) _ (h.stored o v).1
theorem own_less {w : World} {base sz n m c g : Nat} {e : TypeId} {xs : List Value} (h : w.ownsRow base e sz (.slice (some ⟨g, 0, none⟩) n c) n xs) (hm : m ≤ n) : w.ownsRow base e sz (.slice (some ⟨g, 0, none⟩) m c) m (xs.take (m * sz)) := by
 have hl := Nat.mul_le_mul_right sz hm
 refine ⟨by rw [List.length_take, h.1]; omega, ?_⟩
 rcases h.2 with ⟨h', _⟩ | ⟨g', cap', cur, h', hb, hg, hnc, hcm, hcs, htake⟩
 ·cases h'
 ·cases h'
  exact .inr ⟨g, c, cur, rfl, hb, hg, by omega, hcm, hcs, by rw [← htake, List.take_take, Nat.min_eq_left hl]⟩
theorem own_cap9 {w : World} {base sz n c g : Nat} {e : TypeId} {xs : List Value} (h : w.ownsRow base e sz (.slice (some ⟨g, 0, none⟩) n c) n xs) : n ≤ c ∧ c ≤ 9223372036854775807 ∧ g < w.heap.size := by
 refine ⟨?_, ?_, (h.lt g rfl).2⟩
 all_goals
  rcases h.2 with ⟨h', _⟩ | ⟨g', cap', cur, h', hb, hg, hnc, hcm, hcs, htake⟩
  ·cases h'
  ·cases h'
   simp only [maxLen] at hcm
   omega
theorem del_row (l : List Chg3) (k n : Nat) (hl : l.length = n + 1) (hk : k ≤ n) (zs : List Value) (_hz : zs.length = 3) :
  (setL (setL (cgs l) (k * 3) (cgs (l.drop (k + 1)))) (n * 3) zs).take (n * 3) = cgs (l.eraseIdx k) := by
 have e1 : (cgs l).length = (n + 1) * 3 := by rw [cgs_len, hl]
 have e2 : (cgs (l.drop (k + 1))).length = (n - k) * 3 := by rw [cgs_len, List.length_drop, hl]; omega
 have hle : (l.eraseIdx k).length = n := by rw [List.length_eraseIdx]; split <;> omega
 apply List.ext_getElem?
 intro j
 by_cases hj : j < n * 3
 ·rw [List.getElem?_take, if_pos hj, setL_at _ _ _ _ (by rw [setL_len, e1]; omega), if_neg (by omega), setL_at _ _ _ _ (by rw [e1]; omega), e2]
  obtain ⟨q, r, rfl, hr⟩ : ∃ q r, j = q * 3 + r ∧ r < 3 := ⟨j / 3, j % 3, by omega, by omega⟩
  have hq : q < n := by omega
  have hx : ∃ x, (l.eraseIdx k)[q]? = some x := ⟨_, List.getElem?_eq_getElem (by omega)⟩
  obtain ⟨x, hx⟩ := hx
  refine Eq.trans ?_ (flat_at (cgC_len (l.eraseIdx k)) hx hr).symm
  rw [List.getElem?_eraseIdx] at hx
  by_cases hqk : q < k
  ·rw [if_pos hqk] at hx
   rw [if_neg (by omega)]
   exact flat_at (cgC_len l) hx hr
  ·rw [if_neg hqk] at hx
   rw [if_pos (by omega)]
   have hx2 : (l.drop (k + 1))[q - k]? = some x := by rw [List.getElem?_drop, ← hx]; congr 1; omega
   have := flat_at (cgC_len (l.drop (k + 1))) hx2 hr
   rw [← this]
   unfold cgs
   congr 1
   omega
 ·rw [List.getElem?_eq_none (by rw [List.length_take]; omega), List.getElem?_eq_none (by rw [cgs_len, hle]; omega)]
theorem run_clear_cg2 (w : World) (ty : TypeId) (g c o : Nat) (hc : ∀ j, j < 3 → (w.cell? ⟨g, o + j, none⟩).isSome = true) (hf : ∀ j, j < 3 → w.frozen? ⟨g, o + j, none⟩ = false) :
  (Builtin.clear_ #[59] ty #[.slice (some ⟨g, o, none⟩) 1 c]).run Tryz.prog w = .ok (.tuple #[]) (w.setCells g o [S [], S [], S []]) := by
 have hzc : (Builtin.zeroCells (Value.agg #[S [], S [], S []]).cells 1).toList = [S [], S [], S []] := by kernel_rfl
 have hst := run_storeCells_cells (P := Tryz.prog) g o [S [], S [], S []] 0 w (by simpa using hc) (by simpa using hf) (by intro v hv; simp at hv; rcases hv with rfl | rfl | rfl <;> rfl)
 simp only [Nat.add_zero] at hst
 simp [Builtin.clear_, run_underlying Tryz.underlying59, hzc, hst]
theorem run_cut_lhm {P : Program} {t e : TypeId} {sz : Nat} (w : World) (ht : P.underlying t = some (.slice e)) (hz : ∀ w, (sizeOf e).run P w = .ok sz w) (A : Option Addr) (n c : Nat) (kl kh km : IntKind) (l h m : Nat) (h1 : l ≤ h) (h2 : h ≤ m) (h3 : m ≤ c) :
  (Instr.slice t (.slice A n c) (some (.int kl (l : Int))) (some (.int kh (h : Int))) (some (.int km (m : Int)))).run P w = .ok (.slice (cutA A m l sz) (h - l) (m - l)) w := by
 have ht' : P.underlying t = some (.slice (P.elem t)) := by simp [Program.elem, ht]
 have he : P.elem t = e := by simp [Program.elem, ht]
 rw [run_slice_lhm w t A n c ht' kl kh km (l : Int) (h : Int) (m : Int) (by omega) (by omega) (by omega) (by omega), he, hz]
 simp [Result.andThen, sliced, cutA]
set_option maxHeartbeats 4000000 in
set_option maxRecDepth 100000 in
theorem delete_any (b0 g c k n : Nat) (l : List Chg3) (w : World) (h : w.ownsRow b0 124 3 (.slice (some ⟨g, 0, none⟩) (n + 1) c) (n + 1) (cgs l)) (hk : k ≤ n) (_hn : n ≤ 1000000) :
  Calls Tryz.prog 214 #[.slice (some ⟨g, 0, none⟩) (n + 1) c, I k, I ((k : Int) + 1)] w fun e w' => e = .returned (.slice (some ⟨g, 0, none⟩) n c) ∧ w'.ownsRow b0 124 3 (.slice (some ⟨g, 0, none⟩) n c) n (cgs (l.eraseIdx k)) ∧ Fr (fun j => j = g) w w' := by
 have hll : l.length = n + 1 := by have := h.1; rw [cgs_len] at this; omega
 obtain ⟨i0, hi0, hz0, hz1, hz2⟩ := info_parts Tryz.infoChg
 obtain ⟨hnc, hcm, hgl⟩ := own_cap9 h
 have kn : (k : Int) + 1 = ((k + 1 : Nat) : Int) := by omega
 have kn2 : (n : Int) + 1 = ((n + 1 : Nat) : Int) := by omega
 have k1 : ∀ V : World, (Instr.slice 59 (.slice (some ⟨g, 0, none⟩) (n + 1) c) (some (I k)) (some (I ((k : Int) + 1))) (some (I ((n : Int) + 1)))).run Tryz.prog V = .ok (.slice (cutA (some ⟨g, 0, none⟩) (n + 1) k 3) (k + 1 - k) (n + 1 - k)) V := fun V => by
  rw [kn, kn2]
  exact run_cut_lhm V Tryz.underlying59 Tryz.sizeChg _ _ _ .i64 .i64 .i64 k (k + 1) (n + 1) (by omega) (by omega) (by omega)
 have k2 : ∀ V : World, (Instr.slice 59 (.slice (some ⟨g, 0, none⟩) (n + 1) c) none (some (I k)) none).run Tryz.prog V = .ok (.slice (some ⟨g, 0, none⟩) k c) V := fun V => by
  rw [run_cut_h (P := Tryz.prog) V Tryz.underlying59 Tryz.sizeChg _ _ _ .i64 k (by omega)]
  simp [cutA, Addr.add]
 obtain ⟨ad, had⟩ : ∃ ad : Addr, cutA (some ⟨g, 0, none⟩) c (k + 1) 3 = some ad := by unfold cutA; split <;> exact ⟨_, rfl⟩
 have k3 : ∀ V : World, (Instr.slice 59 (.slice (some ⟨g, 0, none⟩) (n + 1) c) (some (I ((k : Int) + 1))) none none).run Tryz.prog V = .ok (.slice (some ad) (n - k) (c - (k + 1))) V := fun V => by
  rw [kn, run_cut_l (P := Tryz.prog) V Tryz.underlying59 Tryz.sizeChg _ _ _ .i64 (k + 1) (by omega), had, show n + 1 - (k + 1) = n - k by omega]
 have k4 : ∀ V : World, (Instr.slice 59 (.slice (some ⟨g, 0, none⟩) n c) (some (I n)) (some (I ((n : Int) + 1))) none).run Tryz.prog V = .ok (.slice (some ⟨g, n * 3, none⟩) 1 (c - n)) V := fun V => by
  rw [kn2, run_cut_lh (P := Tryz.prog) V Tryz.underlying59 Tryz.sizeChg _ _ _ .i64 .i64 n (n + 1) (by omega) (by omega)]
  have : ¬ c = n := by omega
  simp [cutA, this, Addr.add]
  omega
 have Had := Lib.hid had
 have H := Lib.hid h
 have hads : ∀ j u, (cgs (l.drop (k + 1)))[j]? = some u → w.drew.cell? (ad.add j) = some u := fun j u hu => by
  have hj := (List.getElem?_eq_some_iff.1 hu).1
  rw [cgs_len, List.length_drop, hll] at hj
  have hne : ¬ c = k + 1 := by omega
  unfold cutA at had
  rw [if_neg hne] at had
  obtain rfl := Option.some.inj had
  have h1 := H.out.cellAt ((k + 1) * 3 + j) (by omega)
  have e : (cgs l)[(k + 1) * 3 + j]? = (cgs (l.drop (k + 1)))[j]? := by
   obtain ⟨q, r, rfl, hr⟩ : ∃ q r, j = q * 3 + r ∧ r < 3 := ⟨j / 3, j % 3, by omega, by omega⟩
   obtain ⟨x, hx⟩ : ∃ x, l[k + 1 + q]? = some x := ⟨_, List.getElem?_eq_getElem (by omega)⟩
   have e1 := flat_at (cgC_len l) hx hr
   have e2 := flat_at (cgC_len (l.drop (k + 1))) (show (l.drop (k + 1))[q]? = some x by rw [List.getElem?_drop]; exact hx) hr
   rw [show (k + 1) * 3 + (q * 3 + r) = (k + 1 + q) * 3 + r by omega]
   exact e1.trans e2.symm
  rw [e, hu] at h1
  have ea : ((⟨g, 0, none⟩ : Addr).add ((k + 1) * 3)).add j = ⟨g, (k + 1) * 3 + j, none⟩ := by simp [Addr.add]
  rw [ea]
  exact h1
 have hnews : (cgs (l.drop (k + 1))).length = (n - k) * 3 := by rw [cgs_len, List.length_drop, hll]; omega
 have hcl := own_setCells (cgs (l.drop (k + 1))) (cgs l) (k * 3) w.drew h
 have hlen2 : (setL (cgs l) (k * 3) (cgs (l.drop (k + 1)))).length = (n + 1) * 3 := by rw [setL_len, cgs_len, hll]
 obtain ⟨W2, hW2⟩ : ∃ W2, W2 = w.drew.setCells g (k * 3) (cgs (l.drop (k + 1))) := ⟨_, rfl⟩
 rw [← hW2] at hcl
 have k5 : ∀ ty, (Builtin.clear_ #[59] ty #[.slice (some ⟨g, n * 3, none⟩) 1 (c - n)]).run Tryz.prog W2 = .ok (.tuple #[]) (W2.setCells g (n * 3) [S [], S [], S []]) := fun ty => run_clear_cg2 W2 ty g (c - n) (n * 3) (fun j hj => by
  rw [hcl.cellAt (n * 3 + j) (by omega), List.getElem?_eq_getElem (by rw [hlen2]; omega)]
  rfl) (fun j _ => hcl.frozenAt (n * 3 + j))
 have HF2 : Hid (Fr (fun j => j = g) w W2) := Lib.hid (by rw [hW2]; exact (Fr.refl (fun j => j = g) w).drew.trans (fr_setCells w.drew g _ _))
 have Hcl := Lib.hid hcl
 have HW2 := Lib.hid hW2
 have Hll := Lib.hid hll
 have hz : ((k : Int) == (k : Int) + 1) = false := by simp; omega
 have en : k + (n - k) = n := by omega
 clear had h hcl hW2 hll hlen2 kn kn2
 go_enter Tryz.func214, Tryz.ntmps214
 go_wp2
 go_region_law (refine step_append_room rfl (.tmp 22) (.tmp 25) _ rfl 124 i0 3 Tryz.underlying59 hi0 hz1 g 0 k c (by simp [Act.eval, Act.put]) ad (n - k) (c - (k + 1)) (cgs (l.drop (k + 1))) (by simp [Act.eval, Act.put]) hnews hads (one_cgs _) (by omega) (fun j hj => ⟨by
   rw [show 0 + k * 3 + j = k * 3 + j by omega, show w.drew.cell? ⟨g, k * 3 + j, none⟩ = _ from H.out.cellAt (k * 3 + j) (by omega), List.getElem?_eq_getElem (by rw [cgs_len, Hll.out]; omega)]
   rfl, H.out.frozenAt _⟩) ?_)
 all_goals
  try simp only [Nat.zero_add, en]
  rw [← HW2.out]
  go_wp2
 all_goals
  go_ret
  refine ⟨rfl, ?_, HF2.out.trans (fr_setCells W2 g _ _)⟩
  have h9 := own_less (own_setCells [S [], S [], S []] _ (n * 3) W2 Hcl.out) (show n ≤ n + 1 by omega)
  rw [del_row l k n Hll.out hk _ rfl] at h9
  exact h9
def linesC : Coding Tryz.prog 9 52 (List UInt8) Hd where
 kv := S
 kl := Lit.string
 vv := Hd.v
 vd := Hd.d
 R := rdH
 good s := s.length ≤ maxLen
 keyed := Maps.string_keyed Tryz.underlying9
 key s h := diskC.key s h
 inj x y hx hy h := diskC.inj x y hx hy h
 enc h := diskC.enc h
 dec v a ps h := diskC.dec v a ps h
theorem Tryz.zeroLn (w : World) : (zeroValue 52).run Tryz.prog w = .ok (linesC.vv ⟨none, 0, 0⟩) w := by kernel_rfl
def rdOf (R : List (List UInt8)) : RenLaw.Rd := fun id => match getS R id with
 | none => .error (getZ id)
 | some raw => .ok raw.tail
theorem rdOf_none {R : List (List UInt8)} {id : List UInt8} (h : getS R id = none) : rdOf R id = .error (getZ id) := by unfold rdOf; rw [h]
theorem rdOf_some {R : List (List UInt8)} {id raw : List UInt8} (h : getS R id = some raw) : rdOf R id = .ok raw.tail := by unfold rdOf; rw [h]
structure StP (w : World) (q p pk m n : Nat) (cap : Int) (R : List (List UInt8)) : Prop where
 sp : StoreAt w q p pk
 dp : ∃ L, DiskAt w p m n cap L ∧ Objs L R
 bl : Blobs R
theorem StP.step {w w' : World} {q p pk m n : Nat} {cap : Int} {R : List (List UInt8)} (h : StP w q p pk m n cap R) (hb : Below w.heap.size w w') : StP w' q p pk m n cap R := by
 obtain ⟨L, h1, h2⟩ := h.dp
 exact ⟨h.sp.step hb, ⟨L, h1.step hb, h2⟩, h.bl⟩
theorem getS_blob {R : List (List UInt8)} {id raw : List UInt8} (hB : Blobs R) (hg : getS R id = some raw) : raw.tail.length ≤ 1048576 := by
 have hm : raw ∈ R := by
  unfold getS at hg
  split at hg
  ·exact (getObj_mem hg).1
  ·cases hg
 obtain ⟨d, rfl, hd⟩ := hB raw hm
 exact hd
def EM (mb lm pm : Nat) (A : Option Addr) (j : Nat) : Prop := j = mb ∨ j = lm ∨ j = pm ∨ (Value.slice A 0 0).ownBlock = some j
def Cached (E : Nat → Prop) (w : World) (R : List (List UInt8)) (F : List UInt8 → Option Hd) : Prop :=
 ∀ id h, F id = some h → ∃ raw, getS R id = some raw ∧ h.n ≤ h.c ∧ h.n ≤ 1048576 ∧ SlF E w 1 h.a h.n (strs (LinesLaw.lns raw.tail))
theorem Cached.fr {E : Nat → Prop} {w w' : World} {R : List (List UInt8)} {F : List UInt8 → Option Hd} (h : Cached E w R F) (hf : Fr E w w') : Cached E w' R F := fun id x hx => by
 obtain ⟨raw, h1, h2, h3, h4⟩ := h id x hx
 exact ⟨raw, h1, h2, h3, h4.fr hf⟩
theorem Cached.put {E : Nat → Prop} {w : World} {R : List (List UInt8)} {F : List UInt8 → Option Hd} {id raw : List UInt8} {x : Hd} (h : Cached E w R F) (hg : getS R id = some raw) (h1 : x.n ≤ x.c) (h2 : x.n ≤ 1048576) (h3 : SlF E w 1 x.a x.n (strs (LinesLaw.lns raw.tail))) : Cached E w R (upd F id (some x)) := fun id' y hy => by
 unfold upd at hy
 split at hy
 ·rename_i e
  cases hy
  rw [e]
  exact ⟨raw, hg, h1, h2, h3⟩
 ·exact h id' y hy
structure MatAt (b0 : Nat) (w : World) (q mb lm pm : Nat) (A : Option Addr) (n c : Nat) (l : List Chg3) (kp kl : Nat) (f : Int → Option Ren) (F : List UInt8 → Option Hd) (R : List (List UInt8)) : Prop where
 blk : Blk w mb 134 #[.pointer (some ⟨q, 0, none⟩), .slice A n c, .map (some lm), .map (some pm)]
 row : w.ownsRow b0 124 3 (.slice A n c) n (cgs l)
 pairs : MapIs pairC w pm kp f
 lines : MapIs linesC w lm kl F
 cache : Cached (EM mb lm pm A) w R F
 apart : pm ≠ lm
 above : b0 ≤ mb ∧ b0 ≤ lm ∧ b0 ≤ pm
 small : n ≤ 1000000
theorem MatAt.len {b0 : Nat} {w : World} {q mb lm pm : Nat} {A : Option Addr} {n c : Nat} {l : List Chg3} {kp kl : Nat} {f : Int → Option Ren} {F : List UInt8 → Option Hd} {R : List (List UInt8)} (h : MatAt b0 w q mb lm pm A n c l kp kl f F R) : l.length = n := by
 have := h.row.1
 rw [cgs_len] at this
 omega
theorem MatAt.step {b0 : Nat} {w w' : World} {q mb lm pm : Nat} {A : Option Addr} {n c : Nat} {l : List Chg3} {kp kl : Nat} {f : Int → Option Ren} {F : List UInt8 → Option Hd} {R : List (List UInt8)} (h : MatAt b0 w q mb lm pm A n c l kp kl f F R) (hb : Below w.heap.size w w') : MatAt b0 w' q mb lm pm A n c l kp kl f F R :=
 ⟨h.blk.step hb, own_step9 h.row hb, h.pairs.step hb, h.lines.step hb, h.cache.fr (.of_below hb), h.apart, h.above, h.small⟩
theorem MatAt.lts {b0 : Nat} {w : World} {q mb lm pm : Nat} {A : Option Addr} {n c : Nat} {l : List Chg3} {kp kl : Nat} {f : Int → Option Ren} {F : List UInt8 → Option Hd} {R : List (List UInt8)} (h : MatAt b0 w q mb lm pm A n c l kp kl f F R) : ∀ j, EM mb lm pm A j → b0 ≤ j ∧ j < w.heap.size := by
 rintro j (rfl | rfl | rfl | hj)
 ·exact ⟨h.above.1, h.blk.lt⟩
 ·exact ⟨h.above.2.1, h.lines.lt⟩
 ·exact ⟨h.above.2.2, h.pairs.lt⟩
 ·exact h.row.lt j (by
   cases A
   ·exact hj
   ·exact hj)
theorem MatAt.row_ne {b0 : Nat} {w : World} {q mb lm pm : Nat} {A : Option Addr} {n c : Nat} {l : List Chg3} {kp kl : Nat} {f : Int → Option Ren} {F : List UInt8 → Option Hd} {R : List (List UInt8)} (h : MatAt b0 w q mb lm pm A n c l kp kl f F R) : (Value.slice A n c).ownBlock ≠ some mb ∧ (Value.slice A n c).ownBlock ≠ some lm ∧ (Value.slice A n c).ownBlock ≠ some pm := by
 refine ⟨fun e => ?_, fun e => h.lines.ne_own h.row e.symm, fun e => h.pairs.ne_own h.row e.symm⟩
 rcases h.row.2 with ⟨hv, _⟩ | ⟨g, cap, cur, hv, _, hh, _⟩
 ·rw [hv] at e
  cases e
 ·rw [hv] at e
  obtain rfl : g = mb := by simpa [Value.ownBlock] using e
  have hb := h.blk
  unfold Blk at hb
  rw [hh] at hb
  injection hb with hb
  injection hb with _ ht
  exact absurd ht (by decide)
end Go.Proofs.YtphnfcgdpdimbaaGreatDoor
namespace Go.Proofs.YtphnfcgdpdimbaaGreatDoor
open Go.RowKit Go.Shelf
def RetRead (b0 q mb lm pm : Nat) (A : Option Addr) (n c : Nat) (l : List Chg3) (kp kl : Nat) (f : Int → Option Ren) (R : List (List UInt8)) (id : List UInt8) (w : World) (e : Ending) (w' : World) : Prop :=
 (∃ kl' F', kl' ≤ kl + 1 ∧ MatAt b0 w' q mb lm pm A n c l kp kl' f F' R) ∧ Fr (fun j => j = lm) w w' ∧
  match getS R id with
  | none => e = .returned (.tuple #[.slice none 0 0, I (getZ id)])
  | some raw => ∃ h : Hd, e = .returned (.tuple #[h.v, I 0]) ∧ h.n ≤ h.c ∧ h.n ≤ 1048576 ∧ SlF (EM mb lm pm A) w' 1 h.a h.n (strs (LinesLaw.lns raw.tail))
theorem fr_lm {w w' : World} {mb lm pm : Nat} {A : Option Addr} (h : Fr (fun j => j = lm) w w') : Fr (EM mb lm pm A) w w' := h.weak (fun _ e => .inr (.inl e))
set_option maxHeartbeats 4000000 in
set_option maxRecDepth 100000 in
theorem mread_any (b0 : Nat) (w : World) (q p pk dm dn mb lm pm n c kp kl : Nat) (cap : Int) (A : Option Addr) (l : List Chg3) (f : Int → Option Ren) (F : List UInt8 → Option Hd) (R : List (List UInt8)) (id : List UInt8) (hM : MatAt b0 w q mb lm pm A n c l kp kl f F R) (hS : StP w q p pk dm dn cap R) (hX : MaxL w) (hid : id.length ≤ 1000000000) (hkl : kl ≤ 1000000) :
  Calls Tryz.prog 135 #[.pointer (some ⟨mb, 0, none⟩), S id] w (RetRead b0 q mb lm pm A n c l kp kl f R id w) := by
 have hgk : linesC.good id := by show id.length ≤ maxLen; simp only [maxLen]; omega
 have HX := Lib.hid hX
 have HM := Lib.hid hM
 have HS := Lib.hid hS
 have r1 := hM.blk.cell
 have m1 := hM.lines
 clear hM hS hX
 rcases hF : F id with _ | h
 ·obtain ⟨L, hD, hO⟩ := HS.out.dp
  have CO := Lib.hid (sobj_any w q p pk dm dn cap L R id HS.out.sp hD hO HS.out.bl (by omega))
  have HF := Lib.hid hF
  clear hF hD hO
  have hz : (getZ id != 0) = true := by unfold getZ; split <;> rfl
  obtain ⟨z, hzz⟩ : ∃ z, z = getZ id := ⟨_, rfl⟩
  go_enter Tryz.func135, Tryz.ntmps135
  go_wp2_with (at_lookup; refine wpList_look_ok _ rfl _ _ 131 rfl linesC Tryz.underlying131 ⟨none, 0, 0⟩ (Tryz.zeroLn _) lm kl F rfl m1 id rfl hgk ?_; rw [HF.out]; simp only [Option.getD_none, Option.isSome_none])
  refine CO.out.mono ?_
  rintro e w2 hret
  unfold RetObj at hret
  rcases hg : getS R id with _ | raw
  ·rw [hg] at hret
   obtain ⟨rfl, b2⟩ := hret
   have B2 := Lib.hid b2
   have Hg := Lib.hid hg
   rw [← hzz] at hz ⊢
   have Hz := Lib.hid hzz
   clear hg b2 CO hzz
   go_wp2
   go_ret2
   have b3 := balloc B2.out (.cells noObj 110)
   refine ⟨⟨kl, F, by omega, HM.out.step b3⟩, Fr.of_below b3, ?_⟩
   rw [Hg.out, ← Hz.out]
   rfl
  ·rw [hg] at hret
   obtain ⟨⟨g, c', rfl, hS2⟩, b2⟩ := hret
   have hrl := getS_blob HS.out.bl hg
   obtain ⟨k, hk⟩ : ∃ k, k = raw.tail.length := ⟨_, rfl⟩
   rw [← hk] at hS2 hrl ⊢
   obtain ⟨o, ho⟩ : ∃ o, o = w2.heap.size := ⟨_, rfl⟩
   obtain ⟨w3, hw3⟩ : ∃ w3, w3 = w2.alloc (.cells (blobA (some ⟨g, 0, none⟩) k c') 110) := ⟨_, rfl⟩
   have b3 : Below w.heap.size w w3 := by rw [hw3]; exact balloc b2 _
   have HO3 : Hid (Blk w3 o 110 (blobA (some ⟨g, 0, none⟩) k c')) := Lib.hid (by rw [hw3, ho]; exact Blk.new w2 _ _)
   have HS3 : Hid (Sl w3 1 (some ⟨g, 0, none⟩) k (u8s raw.tail)) := Lib.hid (by rw [hw3]; exact hS2.below (balloc (Below.refl _ _) _))
   have HM3 := Lib.hid (HM.out.step b3)
   have B3 := Lib.hid b3
   have Hw3 := Lib.hid hw3
   have Ho := Lib.hid ho
   have Hg := Lib.hid hg
   have hklm : kl < maxLen := by simp only [maxLen]; omega
   have c7 := (split_new (some ⟨g, 0, none⟩) k c' raw.tail w3.drew HS3.out.drew (by omega) ((HX.out.step b3).step (Below.refl _ _).drew))
   obtain ⟨gb, hgb⟩ : ∃ gb, gb = w3.drew.heap.size := ⟨_, rfl⟩
   rw [← hgb] at c7
   have Hgb := Lib.hid hgb
   have C7 := Lib.hid c7
   clear hS2 b2 b3 hw3 ho hg hk CO r1 m1 hz hzz c7 hgb
   go_upto_region 7 with fail
   simp only [← Ho.out]
   rw [← Hw3.out]
   have r3 := HM3.out.blk.cell
   have o3 := HO3.out.cell
   have hlt3 := HO3.out.lt
   go_region_law (go_simp; go_at_call 216; refine C7.out.mono ?_; rintro e w4 ⟨m4, c4, rfl, h41, h42, h43, h44⟩; rw [Hgb.out] at h44; have H4 := Lib.hid h43; have B4 := Lib.hid h44; have M4 := Lib.hid ((HM3.out.step (Below.refl _ _).drew).step h44); have r4 := M4.out.blk.cell; obtain ⟨w5, hrun, hm5, hg5⟩ := M4.out.lines.run_store Tryz.underlying131 hklm hgk ⟨some (gb, 0), m4, c4⟩; have hrun' : (Instr.mapUpdate 131 (.map (some lm)) (S id) (.slice (some ⟨gb, 0, none⟩) m4 c4)).run Tryz.prog w4 = .ok () w5 := hrun; clear h43 h44 hrun)
   all_goals
    have HM5 : Hid (MatAt b0 w5 q mb lm pm A n c l kp (kl + 1) f (upd F id (some ⟨some (gb, 0), m4, c4⟩)) R ∧ SlF (EM mb lm pm A) w5 1 (some ⟨gb, 0, none⟩) m4 (strs (LinesLaw.lns raw.tail))) := Lib.hid (by
     have hfr : Fr (EM mb lm pm A) w4 w5 := fr_lm (Fr.of_grown hg5 (fun k e => by cases e; rfl))
     have hsl : SlF (EM mb lm pm A) w5 1 (some ⟨gb, 0, none⟩) m4 (strs (LinesLaw.lns raw.tail)) := SlF.fr ⟨H4.out, fun b off _ e hE => by
      cases e
      have := (HM3.out.lts gb hE).2
      rw [Hgb.out] at this
      exact Nat.lt_irrefl _ this⟩ hfr
     refine ⟨⟨M4.out.blk.grown hg5 (fun e => M4.out.lines.ne_blk M4.out.blk (Option.some.inj e).symm), M4.out.row.kept hg5 (.inr (fun e => M4.out.row_ne.2.1 e)), M4.out.pairs.grown hg5 (fun e => M4.out.apart (Option.some.inj e)), hm5, (M4.out.cache.fr hfr).put Hg.out h41 ?_ hsl, M4.out.apart, M4.out.above, M4.out.small⟩, hsl⟩
     show m4 ≤ 1048576
     omega)
    have HF5 : Hid (Fr (fun j => j = lm) w w5) := Lib.hid ((Fr.of_below (bstep (B3.out.drew) B4.out)).trans (Fr.of_grown hg5 (fun k e => by cases e; rfl)))
    have r5 := HM5.out.1.blk.cell
    have m5 := HM5.out.1.lines
    have e5 : Hid (upd F id (some ⟨some (gb, 0), m4, c4⟩) id = some ⟨some (gb, 0), m4, c4⟩) := Lib.hid (by unfold upd; rw [if_pos rfl])
    have h42' : m4 ≤ 1048576 := by omega
    clear hrun' hm5 hg5 r4 r3 o3
    go_wp2_with (at_lookup; refine wpList_look _ rfl _ _ 131 rfl linesC Tryz.underlying131 ⟨none, 0, 0⟩ (Tryz.zeroLn _) lm (kl + 1) _ rfl m5 id rfl hgk ?_; rw [e5.out]; simp only [Option.getD_some])
    go_ret2
    refine ⟨⟨kl + 1, _, Nat.le_refl _, HM5.out.1⟩, HF5.out, ?_⟩
    rw [Hg.out]
    exact ⟨⟨some (gb, 0), m4, c4⟩, rfl, h41, h42', HM5.out.2⟩
 ·obtain ⟨raw, hg, h1, h2, h3⟩ := HM.out.cache id h hF
  have HF := Lib.hid hF
  have Hg := Lib.hid hg
  have H3 := Lib.hid h3
  clear hF hg h3
  go_enter Tryz.func135, Tryz.ntmps135
  go_wp2_with (at_lookup; refine wpList_look_ok _ rfl _ _ 131 rfl linesC Tryz.underlying131 ⟨none, 0, 0⟩ (Tryz.zeroLn _) lm kl F rfl m1 id rfl hgk ?_; rw [HF.out]; simp only [Option.getD_some, Option.isSome_some])
  go_ret2
  refine ⟨⟨kl, F, by omega, HM.out⟩, Fr.refl _ _, ?_⟩
  rw [Hg.out]
  exact ⟨h, rfl, h1, h2, H3.out⟩
theorem own_chg {b0 g n c k : Nat} {l : List Chg3} {w : World} {x : Chg3} (h : w.ownsRow b0 124 3 (.slice (some ⟨g, 0, none⟩) n c) n (cgs l)) (hx : l[k]? = some x) : w.cell? ⟨g, k * 3, none⟩ = some (S x.1) ∧ w.cell? ⟨g, k * 3 + 1, none⟩ = some (S x.2.1) ∧ w.cell? ⟨g, k * 3 + 2, none⟩ = some (S x.2.2) := by
 have hl := h.1
 rw [cgs_len] at hl
 have hk := (List.getElem?_eq_some_iff.1 hx).1
 refine ⟨?_, ?_, ?_⟩
 ·have h1 := (h.cellAt (k * 3 + 0) (by omega)).trans (flat_at (cgC_len l) hx (by omega : 0 < 3))
  exact h1
 ·exact (h.cellAt (k * 3 + 1) (by omega)).trans (flat_at (cgC_len l) hx (by omega : 1 < 3))
 ·exact (h.cellAt (k * 3 + 2) (by omega)).trans (flat_at (cgC_len l) hx (by omega : 2 < 3))
set_option maxHeartbeats 4000000 in
set_option maxRecDepth 100000 in
theorem mpairG_any (b0 : Nat) (w : World) (q mb lm pm g n c kp kl k a : Nat) (l : List Chg3) (f : Int → Option Ren) (F : List UInt8 → Option Hd) (R : List (List UInt8)) (x d : Chg3) (sc : Int) (hM : MatAt b0 w q mb lm pm (some ⟨g, 0, none⟩) (n + 1) c l kp kl f F R) (hx : l[k]? = some x) (ha : a ≤ 1000000000) (hkp : kp ≤ 1000000000) :
  Calls Tryz.prog 134 #[.pointer (some ⟨mb, 0, none⟩), I a, I k, .agg #[S d.1, S d.2.1, S d.2.2], I sc] w fun e w' => e = .returned (.tuple #[]) ∧ MatAt b0 w' q mb lm pm (some ⟨g, 0, none⟩) n c (l.eraseIdx k) (kp + 1) kl (upd f a (some (x.1, d.1, sc))) F R ∧ Fr (EM mb lm pm (some ⟨g, 0, none⟩)) w w' := by
 obtain ⟨hnm, hnl, hnp⟩ := hM.row_ne
 have hln := hM.len
 have hk : k ≤ n := by have := (List.getElem?_eq_some_iff.1 hx).1; omega
 have hns := hM.small
 have hgm : g ≠ mb := fun e => hnm (by rw [e]; rfl)
 have hgl : g ≠ lm := fun e => hnl (by rw [e]; rfl)
 have hgp : g ≠ pm := fun e => hnp (by rw [e]; rfl)
 have hpm : pm ≠ mb := hM.pairs.ne_blk hM.blk
 have hlm : lm ≠ mb := hM.lines.ne_blk hM.blk
 have b1 := balloc (Below.refl _ w) (.cells #[S d.1, S d.2.1, S d.2.2] 124)
 have HM1 := Lib.hid (hM.step b1)
 have Hbox := Lib.hid (Blk.new w 124 #[S d.1, S d.2.1, S d.2.2])
 obtain ⟨W, hW⟩ : ∃ W, W = w.alloc (.cells #[S d.1, S d.2.1, S d.2.2] 124) := ⟨_, rfl⟩
 obtain ⟨bx, hbx⟩ : ∃ bx, bx = w.heap.size := ⟨_, rfl⟩
 rw [← hW] at HM1 Hbox b1
 rw [← hbx] at Hbox
 have HF1 := Lib.hid (Fr.of_below (E := EM mb lm pm (some ⟨g, 0, none⟩)) b1)
 have hcm : kp < maxLen := by simp only [maxLen]; omega
 have hga := small_good a ha
 have Hx := Lib.hid hx
 have HN := Lib.hid (show g ≠ mb ∧ g ≠ lm ∧ g ≠ pm ∧ pm ≠ mb ∧ lm ≠ mb from ⟨hgm, hgl, hgp, hpm, hlm⟩)
 clear hM b1 hx hnm hnl hnp hln hgm hgl hgp hpm hlm
 go_enter Tryz.func134, Tryz.ntmps134
 go_wp2
 rw [← hW, ← hbx]
 clear hW hbx
 have r1 := HM1.out.blk.cell
 obtain ⟨r2, r3, r4⟩ := own_chg HM1.out.row Hx.out
 have r5 := Hbox.out.cell
 have hk1 : (k : Int) < (n : Int) + 1 := by omega
 have hk2 : k < n + 1 := by omega
 go_still_tail 17, (by kernel_rfl)
 have hm1 := HM1.out.pairs
 clear r1 r2 r3 r4 r5
 go_wp2_with (at_mapUpdate; refine wpList_store _ rfl _ _ _ 132 rfl pairC Tryz.underlying132 pm kp _ rfl hm1.drew hcm (a : Int) rfl hga (x.1, d.1, sc) rfl ?_; intro W2 hm2 hg2; have HP2 := Lib.hid hm2; have HB2 := Lib.hid (HM1.out.blk.drew.grown hg2 (fun e => HN.out.2.2.2.1 (Option.some.inj e).symm)); have HR2 := Lib.hid ((own_step9 HM1.out.row (Below.refl _ _).drew).kept hg2 (.inr (fun e => HN.out.2.2.1 (Option.some.inj e)))); have HL2 := Lib.hid (HM1.out.lines.drew.grown hg2 (fun e => HM1.out.apart (Option.some.inj e).symm)); have HF2 := Lib.hid ((Fr.refl (EM mb lm pm (some ⟨g, 0, none⟩)) W).drew.trans (Fr.of_grown (E := EM mb lm pm (some ⟨g, 0, none⟩)) hg2 (fun k e => by cases e; exact .inr (.inr (.inl rfl))))); have r2 := HB2.out.cell; have C2 := Lib.hid (delete_any b0 g c k n l W2 HR2.out hk (by omega)); clear hm2 hg2)
 go_wp2_with (go_at_call 214; refine C2.out.mono ?_; rintro e w3 ⟨rfl, hr3, f3⟩; have HB3 := Lib.hid (f3.blk HB2.out (fun e => HN.out.1 e.symm)); have HP3 := Lib.hid (HP2.out.fr f3 (fun e => HN.out.2.2.1 e.symm)); have HL3 := Lib.hid (HL2.out.fr f3 (fun e => HN.out.2.1 e.symm)); have HR3 := Lib.hid hr3; have HF3 := Lib.hid (HF2.out.trans (f3.weak (F := EM mb lm pm (some ⟨g, 0, none⟩)) (fun k e => .inr (.inr (.inr (by rw [e]; rfl)))))); have r3 := HB3.out.cell; have r3f := HB3.out.frozen; have r3l := HB3.out.lt; clear f3 r2 hr3)
 go_end0
 have hF9 := HF3.out.setCell (p := ⟨mb, 1, none⟩) (.inl rfl) (.slice (some ⟨g, 0, none⟩) n c)
 exact ⟨rfl, ⟨HB3.out.set_ 1 (.slice (some ⟨g, 0, none⟩) n c), own_far HR3.out (by exact fun e => HN.out.1 (Option.some.inj e).symm) _, HP3.out.far (by exact fun e => HN.out.2.2.2.1 e) _, HL3.out.far (by exact fun e => HN.out.2.2.2.2 e) _, HM1.out.cache.fr hF9, HM1.out.apart, HM1.out.above, by omega⟩, HF1.out.trans hF9⟩
def RetExact (b0 q mb lm pm : Nat) (A : Option Addr) (n c : Nat) (l : List Chg3) (kp kl a : Nat) (f : Int → Option Ren) (F : List UInt8 → Option Hd) (R : List (List UInt8)) (d : Chg3) (w' : World) : Prop :=
 match l.findIdx? (fun y => decide (y.2.1 = d.2.2)) with
 | none => MatAt b0 w' q mb lm pm A n c l kp kl f F R
 | some k => ∃ x, l[k]? = some x ∧ MatAt b0 w' q mb lm pm A (n - 1) c (l.eraseIdx k) (kp + 1) kl (upd f a (some (x.1, d.1, 100))) F R
theorem idx_ways {l : List Chg3} {f : Chg3 → Bool} {r : Int} (h : IsIdx l f r) : (r = -1 ∧ l.findIdx? f = none) ∨ ∃ k : Nat, r = k ∧ l.findIdx? f = some k ∧ k < l.length := by
 rcases h with ⟨rfl, h⟩ | ⟨k, rfl, x, hx, hf, hb⟩
 ·exact .inl ⟨rfl, List.findIdx?_eq_none_iff.2 h⟩
 ·obtain ⟨hk, e⟩ := List.getElem?_eq_some_iff.1 hx
  refine .inr ⟨k, rfl, List.findIdx?_eq_some_iff_getElem.2 ⟨hk, by rw [e]; exact hf, fun j hj => ?_⟩, hk⟩
  have := hb l[j] (List.mem_take_iff_getElem.2 ⟨j, by omega, rfl⟩)
  rw [this]
  simp
set_option maxHeartbeats 4000000 in
set_option maxRecDepth 100000 in
theorem exactG_any (b0 : Nat) (w : World) (q mb lm pm n c kp kl a : Nat) (A : Option Addr) (l : List Chg3) (f : Int → Option Ren) (F : List UInt8 → Option Hd) (R : List (List UInt8)) (d : Chg3) (hM : MatAt b0 w q mb lm pm A n c l kp kl f F R) (ha : a ≤ 1000000000) (hkp : kp ≤ 1000000000) :
  Calls Tryz.prog 59 #[.pointer (some ⟨mb, 0, none⟩), I a, .agg #[S d.1, S d.2.1, S d.2.2]] w fun e w' => e = .returned (.tuple #[]) ∧ RetExact b0 q mb lm pm A n c l kp kl a f F R d w' ∧ Fr (EM mb lm pm A) w w' := by
 have hns := hM.small
 have hln := hM.len
 have b1 := balloc (Below.refl _ w) (.cells #[S d.1, S d.2.1, S d.2.2] 124)
 have HM1 := Lib.hid (hM.step b1)
 have Hbox := Lib.hid (Blk.new w 124 #[S d.1, S d.2.1, S d.2.2])
 have B1 := Lib.hid b1
 have C1 := Lib.hid (indexFnC 133 #[.pointer (some ⟨w.heap.size, 0, none⟩)] (enters_of Tryz.func133 (by kernel_rfl) rfl) (fun y => decide (y.2.1 = d.2.2)) A n c l _ (Sl.of_own HM1.out.row) (by omega) (fun y _ W hb => exact1_any y d _ W (Hbox.out.step hb)))
 have HM := Lib.hid hM
 have Hln := Lib.hid hln
 have r1 := HM1.out.blk.cell
 clear hM b1 hln
 go_enter Tryz.func59, Tryz.ntmps59
 go_wp2_with fail
 refine C1.out.mono ?_
 rintro e w2 ⟨r, rfl, hr, b2⟩
 have B2 := Lib.hid (bstep B1.out b2)
 have r5 := (Hbox.out.step b2).cell
 have HM2 := Lib.hid (HM.out.step B2.out)
 clear b2 r1
 rcases idx_ways hr with ⟨rfl, hn⟩ | ⟨k, rfl, hk, hkl⟩
 ·have Hn := Lib.hid hn
  clear hr hn
  go_wp2
  go_end0
  refine ⟨rfl, ?_, Fr.of_below B2.out⟩
  unfold RetExact
  rw [Hn.out]
  exact HM2.out
 ·obtain ⟨n', rfl⟩ : ∃ n', n = n' + 1 := ⟨n - 1, by have := Hln.out; omega⟩
  obtain ⟨g, rfl⟩ : ∃ g, A = some ⟨g, 0, none⟩ := by
   rcases HM.out.row.2 with ⟨hv, h0⟩ | ⟨g, _, _, hv, _⟩
   ·cases h0
   ·injection hv with h1
    exact ⟨g, h1⟩
  obtain ⟨x, hx⟩ : ∃ x, l[k]? = some x := ⟨_, List.getElem?_eq_getElem hkl⟩
  have Hx := Lib.hid hx
  have Hk := Lib.hid hk
  have C2 := Lib.hid (mpairG_any b0 w2 q mb lm pm g n' c kp kl k a l f F R x d 100 HM2.out hx ha hkp)
  have hd : decide ((0 : Int) ≤ (k : Int)) = true := by simp
  clear hr hk hx
  go_wp2_with (go_at_call 134; refine C2.out.mono ?_; rintro e w3 ⟨rfl, h1, h2⟩; have H1 := Lib.hid h1; have H2 := Lib.hid h2; clear h1 h2)
  go_end0
  refine ⟨rfl, ?_, (Fr.of_below B2.out).trans H2.out⟩
  unfold RetExact
  rw [Hk.out]
  exact ⟨x, Hx.out, H1.out⟩
end Go.Proofs.YtphnfcgdpdimbaaGreatDoor

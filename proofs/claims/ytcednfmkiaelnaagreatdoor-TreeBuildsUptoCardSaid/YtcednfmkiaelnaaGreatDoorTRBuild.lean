/-
  dolmenref13.build: the id of files' tree, and all trees behind those of before. Conditions: the files may be; the rows can be read.
-/
import Derived.Test.YtcednfmkiaelnaaGreatDoorTRbLaw
import Derived.Test.YtcednfmkiaelnaaGreatDoorTREntry
import Derived.Test.YtcednfmkiaelnaaGreatDoorTRAdd
import Derived.Test.YtcednfmkiaelnaaGreatDoorTREnc13
import Derived.Test.YtcednfmkiaelnaaGreatDoorTKitTd
import Derived.Test.YtcednfmkiaelnaaGreatDoorTKitRq
import Derived.Test.YtcednfmkiaelnaaGreatDoorTKitI
import Derived.Test.YtcednfmkiaelnaaGreatDoorTKitX
import Derived.BigRegion
namespace Go.Proofs.YtcednfmkiaelnaaGreatDoor
open Go.RowKit
open TreeLaw
open PathLaw (Bs under)
theorem insT_len (l : List Ent3) (e : Ent3) : (insT l e).length ≤ l.length + 1 := by
 induction l with
 | nil => simp [insT]
 | cons x t ih =>
  unfold insT
  split
  ·simp only [List.length_cons]; omega
  ·split <;> simp
theorem entsOf_len (l : List Fil) : (entsOf l).length ≤ l.length := by
 unfold entsOf
 have h : ∀ (m : List Fil) (acc : List Ent3), (m.foldl (fun acc f => insT acc (entOf f)) acc).length ≤ acc.length + m.length := by
  intro m
  induction m with
  | nil => intro acc; simp
  | cons f t ih =>
   intro acc
   have h1 := ih (insT acc (entOf f))
   have h2 := insT_len acc (entOf f)
   simp only [List.foldl_cons, List.length_cons]
   omega
 have := h l []
 simpa using this
theorem dir_room {K : Nat} {l : List Fil} (hl : FineB l) {out : List Bs} {i : Nat} {x : Ent3} (hx : (entsOf l)[i]? = some x) (hd : x.2.1 = true) : (doneB K l out i).2.length + wgt (inOf l x.1) + 1 ≤ out.length + wgt l ∧ inOf l x.1 ≠ [] := by
 obtain ⟨hlt, he⟩ := List.getElem?_eq_some_iff.1 hx
 obtain ⟨D, hD⟩ : ∃ D, (((entsOf l).take i).filter fun x => x.2.1).map (·.1) = D := ⟨_, rfl⟩
 have e1 : dirNs l = D ++ x.1 :: (((entsOf l).drop (i + 1)).filter fun x => x.2.1).map (·.1) := by
  have h1 : entsOf l = (entsOf l).take i ++ x :: (entsOf l).drop (i + 1) := by rw [← he, ← List.drop_eq_getElem_cons hlt, List.take_append_drop]
  unfold dirNs
  conv => lhs; rw [h1]
  rw [List.filter_append, List.map_append, hD, List.filter_cons, if_pos hd, List.map_cons]
 have hj : (dirNs l)[D.length]? = some x.1 := by rw [e1]; simp
 have ht : (dirNs l).take D.length = D := by rw [e1]; simp
 have h1 := stepD_room K l hl out D.length hj
 rw [ht] at h1
 have h2 := (stepB_parts K l ((entsOf l).take i) [] [] out rfl).1
 rw [hD] at h2
 refine ⟨?_, (mem_dirNs hl _).1 (by rw [e1]; simp)⟩
 unfold doneB
 rw [h2]
 exact h1
theorem entsOk_of {es : List Ent3} (h : FineT es) : EntsOk es := by
 obtain ⟨h1, h2⟩ := h
 rw [Bool.and_eq_true] at h1
 have key : ∀ k x, es[k]? = some x → okE es (k + 1) = true := fun k x hx => by
  have hk := (List.getElem?_eq_some_iff.1 hx).1
  rcases h3 : okE es (k + 1) with _ | _
  ·have := okE_no h3 (n := es.length) (by omega)
   rw [this] at h1
   exact absurd h1.1 (by simp)
  ·rfl
 refine ⟨fun x hx => ?_, fun k x y hx hy => ?_, of_decide_eq_true h1.2⟩
 ·obtain ⟨k, hk⟩ := List.mem_iff_getElem?.1 hx
  have h3 := key k x hk
  rw [okE_succ hk] at h3
  simp only [Bool.and_eq_true] at h3
  have h4 := h2 x hx
  exact ⟨h3.2.1.1, h4.1, by omega⟩
 ·have h3 := key (k + 1) y hy
  rw [okE_succ hy] at h3
  simp only [Bool.and_eq_true, Nat.add_sub_cancel, hx, Option.map_some, Option.getD_some] at h3
  have h4 := h3.2.2
  rw [Bool.or_eq_true] at h4
  rcases h4 with h4 | h4
  ·simp at h4
  ·rw [Go.Proofs.bytesLess_eq] at h4
   exact of_decide_eq_true h4
theorem es_fine9 {K : Nat} {l : List Fil} (hl : FineB l) (hk : ∀ f ∈ l, f.1.length < K + 1) (out : List Bs) : FineT ((entsOf l).foldl (stepB K l) ([], out)).1 := by
 rcases K with _ | K
 ·have hl0 : l = [] := by
   rcases l with _ | ⟨f, t⟩
   ·rfl
   ·have h2 := hk f (by simp)
    have h3 := (hl.parts f (by simp)).1
    have h4 : f.1 = [] := List.length_eq_zero_iff.1 (by omega)
    rw [h4] at h3
    exact absurd h3 (by decide)
  subst hl0
  exact fineT_of (by simp [entsOf]) (by simp [RiseT, entsOf]) (by simp [entsOf])
 ·exact build_fine hl (by omega) out
theorem addR_ge (out : List Bs) (raw : Bs) : out.length ≤ (addR out raw).length := by
 unfold addR
 split <;> simp
theorem own_keepT {w w' : World} {b sz n : Nat} {e : TypeId} {v : Value} {xs : List Value} (h : w.ownsRow b e sz v n xs) (hk : KeepT e w w') : w'.ownsRow b e sz v n xs := by
 refine ⟨h.1, ?_⟩
 rcases h.2 with h2 | ⟨g, cap, cur, hv, hg, hh, r⟩
 ·exact .inl h2
 ·exact .inr ⟨g, cap, cur, hv, hg, hk _ _ _ hh, r⟩
def SlB (B : Nat) (e : TypeId) (w : World) (sz : Nat) (A : Option Addr) (n : Nat) (xs : List Value) : Prop :=
 Sl w sz A n xs ∧ (0 < n → ∃ (b off : Nat), A = some ⟨b, off, none⟩ ∧ (b < B ∨ ∃ (cs : Array Value) (fr : Nat × Nat), w.heap[b]? = some (.cells cs e fr)))
theorem SlB.keep {w0 w w' : World} {e : TypeId} {sz n : Nat} {A : Option Addr} {xs : List Value} (h : SlB w0.heap.size e w sz A n xs) (h1 : Below w0.heap.size w0 w) (h2 : Below w0.heap.size w0 w') (hk : KeepT e w w') : SlB w0.heap.size e w' sz A n xs := by
 refine ⟨⟨h.1.1, fun hn => ?_⟩, fun hn => ?_⟩
 ·obtain ⟨b, off, rfl, hb⟩ := h.2 hn
  obtain ⟨b', off', e', _, hc⟩ := h.1.2 hn
  cases e'
  have e2 : w'.heap[b]? = w.heap[b]? := by
   rcases hb with hb | ⟨cs, fr, hb⟩
   ·exact (h2.block b hb).trans (h1.block b hb).symm
   ·exact (hk b cs fr hb).trans hb.symm
  have hlt : b < w'.heap.size := by
   rcases hb with hb | ⟨cs, fr, hb⟩
   ·have := h2.size; omega
   ·exact heap_lt (hk b cs fr hb)
  exact ⟨b, off, rfl, hlt, fun k hk' => (World.cell?_of_block e2).trans (hc k hk')⟩
 ·obtain ⟨b, off, rfl, hb⟩ := h.2 hn
  refine ⟨b, off, rfl, ?_⟩
  rcases hb with hb | ⟨cs, fr, hb⟩
  ·exact .inl hb
  ·exact .inr ⟨cs, fr, hk b cs fr hb⟩
theorem SlB.of_slT {H : Nat → Prop} {B : Nat} {e : TypeId} {w : World} {sz n : Nat} {A : Option Addr} {xs : List Value} (h : SlT H e w sz A n xs) : SlB B e w sz A n xs :=
 ⟨h.1, fun hn => by
  obtain ⟨b, off, cs, fr, e1, _, hb⟩ := h.2 hn
  exact ⟨b, off, e1, .inr ⟨cs, fr, hb⟩⟩⟩
theorem SlB.of_sl {e : TypeId} {w : World} {sz n : Nat} {A : Option Addr} {xs : List Value} (h : Sl w sz A n xs) : SlB w.heap.size e w sz A n xs :=
 ⟨h, fun hn => by
  obtain ⟨b, off, e1, hb, _⟩ := h.2 hn
  exact ⟨b, off, e1, .inl hb⟩⟩
def rb16Phi (b off b2 o2 k k1 c c1 i j g m3 c3 c5 : Nat) (A3 A5 : Option Addr) (fp fi xp : List UInt8) : Nat → Value → World → Prop
 | 0, v, _ => v = .slice A3 m3 c3
 | 1, v, _ => v = .slice (some ⟨b2, o2, none⟩) k c
 | 2, v, _ => v = I ((j : Int))
 | 3, v, _ => v = .pointer (some ⟨b2, o2 + j * 2, none⟩)
 | 4, v, _ => v = .pointer (some ⟨b2, o2 + j * 2, none⟩)
 | 5, v, _ => v = S fp
 | 6, v, _ => v = .slice (some ⟨b, off, none⟩) k1 c1
 | 7, v, _ => v = I ((i : Int))
 | 8, v, _ => v = .pointer (some ⟨b, off + i * 3, none⟩)
 | 9, v, _ => v = .pointer (some ⟨b, off + i * 3, none⟩)
 | 10, v, _ => v = S xp
 | 11, v, _ => v = I ((xp.length : Int))
 | 12, v, _ => v = I (((xp.length + 1 : Nat) : Int))
 | 13, v, _ => v = S (fp.drop (xp.length + 1))
 | 14, v, _ => v = .slice (some ⟨b2, o2, none⟩) k c
 | 15, v, _ => v = I ((j : Int))
 | 16, v, _ => v = .pointer (some ⟨b2, o2 + j * 2, none⟩)
 | 17, v, _ => v = .pointer (some ⟨b2, o2 + j * 2 + 1, none⟩)
 | 18, v, _ => v = S fi
 | 19, v, _ => v = .agg #[S (fp.drop (xp.length + 1)), S fi]
 | 20, v, _ => v = .slice (some ⟨g, 0, none⟩) 1 1
 | 21, v, _ => v = .slice A5 (m3 + 1) c5
 | _, _, _ => True
def RBuildC (K : Nat) : Prop := ∀ (l : List Fil) (A : Option Addr) (n c : Nat) (w0 w : World) (A0 : Option Addr) (n0 c0 : Nat) (hs : List Hd) (raws : List Bs),
 0 < K → FineB l → (∀ f ∈ l, f.1.length < K) → SlB w0.heap.size 76 w 2 A n (fls l) → Ow w0 w 38 1 A0 n0 c0 (hs.map Hd.v) → RowsAt w hs raws → raws.length + wgt l + 1 ≤ 1000000 →
 Calls Tryz.prog 31 #[.slice A0 n0 c0, .slice A n c] w fun e w' => ∃ A' n' c' hs', e = .returned (.tuple #[.slice A' n' c', S (buildL K l raws).1]) ∧ Ow w0 w' 38 1 A' n' c' (hs'.map Hd.v) ∧ RowsAt w' hs' (buildL K l raws).2 ∧ ∀ T : TypeId, T ≠ 38 → KeepT T w w'
set_option maxRecDepth 100000 in
set_option maxHeartbeats 8000000 in
theorem rbuild_succ (K : Nat) (ih : RBuildC K) : RBuildC (K + 1) := by
 intro l A n c w0 w A0 n0 c0 hs raws _ hl hK hA hO hR hroom
 have Hl := Lib.hid hl
 have HK := Lib.hid hK
 have HA := Lib.hid hA
 have Hln : Hid (l.length = n) := Lib.hid (fls_count hA.1)
 have HB0 := Lib.hid hO.2
 obtain ⟨j0, hj0, hy0, hy1, hy2⟩ := info_parts Tryz.infoRFil
 have HO := Lib.hid hO
 have HR := Lib.hid hR
 have Hroom := Lib.hid hroom
 have hn : n ≤ 4096 := by have h1 := hl.few; rw [Hln.out] at h1; exact h1
 clear hl hK hA hO hR hroom
 go_enter Tryz.func31, Tryz.ntmps31
 go_wp2
 go_loopw [6, 7, 8] (fun s6 s7 _ wr => ∃ (k k1 c1 : Nat) (A1 : Option Addr), s7 = .int .i64 k ∧ s6 = .slice A1 k1 c1 ∧ k ≤ n ∧ k1 ≤ k ∧ Hid (Ow w wr 129 3 A1 k1 c1 (ens (entsOf (l.take k))))) (fun _ s7 _ _ => n - (intOf s7).toNat)
 case atStart => exact ⟨0, 0, 0, none, rfl, rfl, Nat.zero_le _, Nat.le_refl _, Lib.hid (Ow.nil_ (Below.refl _ _))⟩
 case round =>
  obtain ⟨k, k1, c1, A1, rfl, rfl, hk, hk1, HE⟩ := hrel
  have HAw := Lib.hid (HA.out.1.below HE.out.2)
  by_cases hki : k < n
  ·obtain ⟨b, off, x, rfl, _, hx, x0, x1⟩ := HAw.out.fil hki
   have Hx := Lib.hid hx
   clear hx
   obtain ⟨p, id⟩ := x
   simp only at x0 x1
   have d0 : decide ((k : Int) < (n : Int)) = true := decide_eq_true (by omega)
   have hp : p.length ≤ 150 := (Hl.out.parts _ (List.mem_of_getElem? Hx.out)).2
   have CP := Lib.hid (fun V => parts_any p V (Nat.le_trans hp (by decide)))
   have Hp := Lib.hid hp
   clear hp
   go_wp2_with (go_at_call 34; refine (CP.out _).mono ?_; rintro e w2 ⟨A2, n2, c2, rfl, hO2⟩; have HO2 := Lib.hid hO2; clear hO2 x0 x1)
   obtain ⟨pt, hpt, hmore⟩ := pc_first p
   have hn2 : (PathLaw.pc p).length = n2 := by have := HO2.out.len; simpa [strs] using this
   have hn1 : 0 < n2 := by rw [← hn2, hpt]; simp
   obtain ⟨b2, o2, s2, rfl, hs2, z0⟩ := HO2.out.sl.str (k := 0) hn1
   obtain rfl : s2 = (cutS p).1 := by rw [hpt] at hs2; simpa using hs2.symm
   rw [Nat.add_zero] at z0
   obtain ⟨dr, hdr⟩ : ∃ dr, dr = (cutS p).2.isSome := ⟨_, rfl⟩
   have d1 : decide ((1 : Int) < (n2 : Int)) = dr := by
    rw [hdr, ← pc_more, hn2]
    exact decide_eq_decide.2 (by omega)
   have HAw2 := Lib.hid (HAw.out.below HO2.out.2)
   obtain ⟨x0, x1⟩ : w2.cell? ⟨b, off + k * 2, none⟩ = some (S p) ∧ w2.cell? ⟨b, off + k * 2 + 1, none⟩ = some (S id) := by
    obtain ⟨b', off', y, e9, _, hy, y0, y1⟩ := HAw2.out.fil hki
    cases e9
    obtain rfl := Option.some.inj (hy.symm.trans Hx.out)
    exact ⟨y0, y1⟩
   have HE2 := Lib.hid (HE.out.keep HO2.out.2)
   have hk1b : k1 ≤ 1000000 := by omega
   have CE := Lib.hid (fun q => rentry_any w (w2.drewN q) A1 k1 c1 (entsOf (l.take k)) ((cutS p).1, dr, id) (HE2.out.drewN q) hk1b)
   have Hdr := Lib.hid hdr
   obtain ⟨d, hd⟩ : ∃ d, d = (cutS p).1 := ⟨_, rfl⟩
   rw [← hd] at z0 CE
   have Hd := Lib.hid hd
   clear hpt hmore hs2 hdr hd
   go_wp2_with fail
   go_region_with ((go_at_call 70; refine (CE.out _).mono ?_; rintro e w3 ⟨A3, n3, c3, rfl, hO3, hb3⟩))
   all_goals
    have HE3 : Hid (Ow w w3 129 3 A3 n3 c3 (ens (entsOf (l.take (k + 1))))) := Lib.hid (by
     rw [entsOf_next Hx.out]
     unfold entOf
     simp only
     rw [← Hdr.out, ← Hd.out]
     exact hO3)
    have hn3 : n3 ≤ k + 1 := by
     have h1 := ens_count HE3.out.sl
     have h2 := entsOf_len (l.take (k + 1))
     have h3 : (l.take (k + 1)).length ≤ k + 1 := by rw [List.length_take]; omega
     omega
    clear hO3 hb3
    go_wp2
    go_roundw
    case rel => exact ⟨k + 1, n3, c3, A3, by go_num, rfl, by omega, hn3, HE3⟩
    case measure => simp [intOf]; omega
  ·obtain rfl : k = n := by omega
   have d0 : decide ((k : Int) < (k : Int)) = false := decide_eq_false (by omega)
   have HW : Hid (∀ T : TypeId, KeepT T w wr) := Lib.hid (fun T => .of_below HE.out.2)
   have HO2 := Lib.hid (HO.out.keep HE.out.2)
   have HR2 := Lib.hid (HR.out.keep (HW.out _))
   have HE0 : Hid (wr.ownsRow w.heap.size 129 3 (.slice A1 k1 c1) k1 (ens (rowB K l raws 0))) := Lib.hid (by
    rw [rowB_zero]
    have h := HE.out.1
    rw [List.take_of_length_le (by rw [Hln.out]; exact Nat.le_refl _)] at h
    exact h)
   have Hk1 : Hid ((entsOf l).length = k1) := Lib.hid (by
    have h := ens_count HE.out.sl
    rw [List.take_of_length_le (by rw [Hln.out]; exact Nat.le_refl _)] at h
    exact h)
   have hsz : w.heap.size ≤ wr.heap.size := HE.out.2.size
   have Hsz := Lib.hid hsz
   clear HAw HE hsz
   go_wp2
   go_loopw [0, 9, 10, 11, 12, 13] (fun s0 s9 _ _ _ _ wr => ∃ (i n' c' : Nat) (A' : Option Addr) (hs' : List Hd), s9 = .int .i64 i ∧ s0 = .slice A' n' c' ∧ i ≤ k1 ∧ Hid (Ow w0 wr 38 1 A' n' c' (hs'.map Hd.v)) ∧ Hid (RowsAt wr hs' (doneB K l raws i).2) ∧ Hid (wr.ownsRow w.heap.size 129 3 (.slice A1 k1 c1) k1 (ens (rowB K l raws i))) ∧ Hid (∀ T : TypeId, T ≠ 38 → KeepT T w wr) ∧ Hid (w.heap.size ≤ wr.heap.size)) (fun _ s9 _ _ _ _ _ => k1 - (intOf s9).toNat)
   case atStart => exact ⟨0, _, _, _, hs, rfl, rfl, Nat.zero_le _, HO2, HR2, HE0, Lib.hid (fun T _ => HW.out T), Hsz⟩
   case round =>
    obtain ⟨i, n', c', A', hs', rfl, rfl, hi, HO, HR, HE, HT, HZ⟩ := hrel
    by_cases hik : i < k1
    ·have d1 : decide ((i : Int) < (k1 : Int)) = true := decide_eq_true (by omega)
     have hsl := Sl.of_own HE.out
     obtain ⟨b, off, x, rfl, _, hx, x0, x1, x2⟩ := hsl.en hik
     have HX : Hid ((entsOf l)[i]? = some x) := Lib.hid (by
      obtain ⟨y, hy⟩ : ∃ y, (entsOf l)[i]? = some y := ⟨(entsOf l)[i]'(by rw [Hk1.out]; exact hik), List.getElem?_eq_getElem _⟩
      have h1 := rowB_at (k := K) (out := raws) hy
      rw [h1] at hx
      rw [hy, hx])
     clear hx hsl
     obtain ⟨xp, xd, xi⟩ := x
     simp only at x0 x1 x2
     cases xd with
     | false =>
      have HF := Lib.hid (rowB_file (k := K) (out := raws) HX.out rfl)
      go_wp2
      go_roundw
      case rel => exact ⟨i + 1, _, _, _, hs', by go_num, rfl, by omega, HO, Lib.hid (by rw [HF.out.2]; exact HR.out), Lib.hid (by rw [HF.out.1]; exact HE.out), HT, HZ⟩
      case measure => simp [intOf]; omega
     | true =>
      have HF := Lib.hid (rowB_dir (k := K) (out := raws) HX.out rfl)
      have HAi := Lib.hid (HA.out.keep HB0.out HO.out.2 (HT.out _ (by decide)))
      have Hxd : Hid ((47 : UInt8) ∉ xp) := Lib.hid (entsOf_name (List.mem_of_getElem? HX.out))
      have HEr := Lib.hid (Sl.of_own HE.out)
      have Hx0 := Lib.hid x0
      clear x0 x2
      obtain ⟨wo, hwo⟩ : ∃ x, x = wr := ⟨wr, rfl⟩
      subst hwo
      go_wp2
      go_loopw [10, 11] (fun s10 s11 wv => ∃ (j m3 c3 : Nat) (A3 : Option Addr), s11 = .int .i64 j ∧ s10 = .slice A3 m3 c3 ∧ j ≤ k ∧ m3 ≤ j ∧ Hid (Ow wo wv 76 2 A3 m3 c3 (fls (inU (l.take j) xp)))) (fun _ s11 _ => k - (intOf s11).toNat)
      case atStart => exact ⟨0, 0, 0, none, rfl, rfl, Nat.zero_le _, Nat.le_refl _, Lib.hid (Ow.nil_ (Below.refl _ _))⟩
      case round =>
       obtain ⟨j, m3, c3, A3, rfl, rfl, hj, hm3, HIn⟩ := hrel
       by_cases hjk : j < k
       ·obtain ⟨b2, o2, f, e8, _, hf, z0, z1⟩ := (HAi.out.1.below HIn.out.2).fil hjk
        subst e8
        have Hf := Lib.hid hf
        obtain ⟨fp, fi⟩ := f
        simp only at z0 z1
        have d2 : decide ((j : Int) < (k : Int)) = true := decide_eq_true (by omega)
        have x0 : wr.cell? ⟨b, off + i * 3, none⟩ = some (S xp) := by
         obtain ⟨b', off', y, e9, _, hy, y0, _, _⟩ := (HEr.out.below HIn.out.2).en hik
         cases e9
         have h1 := rowB_at (k := K) (out := raws) HX.out
         obtain rfl := Option.some.inj (hy.symm.trans h1)
         exact y0
        have hfp : fp.length ≤ 150 := (Hl.out.parts _ (List.mem_of_getElem? Hf.out)).2
        have HN := Lib.hid (inU_next (d := xp) Hf.out)
        have Hz : Hid (∀ V, Below wo.heap.size wo V → V.cell? ⟨b2, o2 + j * 2, none⟩ = some (S fp) ∧ V.cell? ⟨b2, o2 + j * 2 + 1, none⟩ = some (S fi) ∧ V.cell? ⟨b, off + i * 3, none⟩ = some (S xp)) := Lib.hid (fun V hV => by
         obtain ⟨b3, o3, f3, e9, _, hf3, w0, w1⟩ := (HAi.out.1.below hV).fil hjk
         cases e9
         obtain rfl := Option.some.inj (hf3.symm.trans Hf.out)
         obtain ⟨b', off', y, e9, _, hy, y0, _, _⟩ := (HEr.out.below hV).en hik
         cases e9
         have h1 := rowB_at (k := K) (out := raws) HX.out
         obtain rfl := Option.some.inj (hy.symm.trans h1)
         exact ⟨w0, w1, y0⟩)
        by_cases hu : under fp xp = true
        ·have CU : Hid (∀ V, Calls Tryz.prog 14 #[S fp, S xp] V fun e w' => e = .returned (.bool true) ∧ ∃ m, w' = V.drewN m) := Lib.hid (fun V => (runder_any fp xp V (Nat.le_trans hfp (by decide))).mono (by
          rintro e w' ⟨rfl, rfl⟩
          exact ⟨by rw [hu], 0, rfl⟩))
         have HN2 : Hid (inU (l.take (j + 1)) xp = inU (l.take j) xp ++ [(fp.drop (xp.length + 1), fi)]) := Lib.hid (by rw [HN.out, if_pos hu])
         have hul : xp.length + 1 ≤ fp.length := by
          obtain ⟨r, hr⟩ := PathLaw.under_iff.1 hu
          rw [hr, List.length_append, List.length_cons]
          omega
         clear hf HN hu
         go_wp2
         go_quiet ((go_at_call 14; exact Calls.quiet_of (CU.out _)))
         obtain ⟨W, hW⟩ : ∃ W, W = wr.drewN nq := ⟨_, rfl⟩
         rw [← hW]
         have bW : Below wr.heap.size wr W := by rw [hW]; exact below_drewN (Below.refl _ _) _
         have HIW := Lib.hid (HIn.out.keep bW)
         clear hW bW z0 z1 x0 CU
         have he : (⟨fp.toArray⟩ : ByteArray).extract (xp.length + 1) fp.length = ⟨(fp.drop (xp.length + 1)).toArray⟩ := by rw [extract_mk, List.take_of_length_le (by rw [List.length_drop]; exact Nat.le_refl _)]
         have hb1 : (0 : Int) ≤ (xp.length : Int) + 1 := by omega
         have hb2 : (xp.length : Int) + 1 ≤ (fp.length : Int) := by omega
         have hwr : IntKind.i64.wrap ((xp.length : Int) + 1) = ((xp.length + 1 : Nat) : Int) := by rw [IntWalk.i64_in _ (by omega)]; omega
         have hO9 : Ow wo (W.drew.alloc (.cells #[S (fp.drop (xp.length + 1)), S fi] 76)) 76 2 A3 m3 c3 (fls (inU (l.take j) xp)) := HIW.out.drew.alloc _
         have hS9 : Sl (W.drew.alloc (.cells #[S (fp.drop (xp.length + 1)), S fi] 76)) 2 (some ⟨W.drew.heap.size, 0, none⟩) 1 (fls [(fp.drop (xp.length + 1), fi)]) := sl_fil W.drew 76 (fp.drop (xp.length + 1), fi)
         obtain ⟨A5, c5, w5, hrun, hO5, hg5, _⟩ := run_append_sl (P := Tryz.prog) _ wo.heap.size 22 22 76 j0 _ 2 32 Tryz.underlying22 hj0 hy0 hy1 hy2 rfl (by decide) (.slice A3 m3 c3) m3 (fls (inU (l.take j) xp)) hO9.1 _ 1 1 (fls [(fp.drop (xp.length + 1), fi)]) hS9 (one_fls _) (by simp only [maxLen]; omega) (by omega) hO9.2.size
         have HF5 : Hid (Ow wo w5 76 2 A5 (m3 + 1) c5 (fls (inU (l.take (j + 1)) xp))) := Lib.hid ⟨by rw [HN2.out, fls_append]; exact hO5, hO9.2.grown hg5 hO9.2.size (fun q hq => (hO9.1.lt q hq).1)⟩
         have hb5 : Below wo.heap.size wo w5 := hO9.2.grown hg5 hO9.2.size (fun q hq => (hO9.1.lt q hq).1)
         have HB := Lib.hid (CJ.bel (w0 := wo) (W0 := W.drew) (W1 := W.drew.alloc (.cells #[S (fp.drop (xp.length + 1)), S fi] 76)) (W2 := w5) HIW.out.2.drew hO9.2 hb5)
         have Hrun := Lib.hid hrun
         clear hS9 hrun hO5 hg5 hb5 hO9
         obtain ⟨g, hg⟩ : ∃ g, g = W.heap.size := ⟨_, rfl⟩
         have Hg := Lib.hid hg
         clear hg
         go_wp2
         refine wp_region_pairR (by kernel_rfl) 22 (by kernel_rfl) ?_ (fun j9 v => rb16Phi b off b2 o2 k k1 c c1 i j g m3 c3 c5 A3 A5 fp fi xp j9 v W) 20 21 (by kernel_rfl) (fun w w' => w' = w) (fun _ => rfl) (CJ W.drew (W.drew.alloc (.cells #[S (fp.drop (xp.length + 1)), S fi] 76)) w5) CJ.step rfl (fun i9 o hi9 hi1 hi2 ho a w k' hk hk2 hs hm => ?_) (fun o ho a w hj hs hm => ?_) (fun o ho a w hj hs hm => ?_) (fun o ho a w hj hs hm => ?_)
         ·exact dst_ltC2 (n := 116) (by kernel_rfl)
         ·obtain ⟨y0, y1, y2⟩ := Hz.out w (HB.out k' w hk)
          exact match i9, hi9, ho, hi1, hi2 with
          | 0, _, ho, _, _ => by
            cases ho
            rw [if_pos (wanted_none _ rfl)]
            refine wp_value (st_move rfl ((hs.keeps (by kernel_rfl)).trans rfl)) ⟨_, rfl, rfl, rfl⟩
          | 1, _, ho, _, _ => by
            cases ho
            rw [if_pos (wanted_none _ rfl)]
            refine wp_value (st_move rfl ((hs.keeps (by kernel_rfl)).trans rfl)) ⟨_, rfl, rfl, rfl⟩
          | 2, _, ho, _, _ => by
            cases ho
            rw [if_pos (wanted_none _ rfl)]
            refine wp_value (st_move rfl ((hs.keeps (by kernel_rfl)).trans rfl)) ⟨_, rfl, rfl, rfl⟩
          | 3, _, ho, _, _ => by
            cases ho
            rw [if_pos (wanted_none _ rfl)]
            have h1 := eval_getD (hm.get 1 72 (by kernel_rfl)); have h2 := eval_getD (hm.get 2 73 (by kernel_rfl)); unfold Oper.wp; simp only [execOp]; go_simp; (first | exact ⟨_, rfl, rfl⟩ | exact ⟨_, rfl, rfl, rfl⟩)
          | 4, _, ho, _, _ => by
            cases ho
            rw [if_pos (wanted_none _ rfl)]
            have h1 := eval_getD (hm.get 3 74 (by kernel_rfl)); unfold Oper.wp; simp only [execOp]; go_simp; (first | exact ⟨_, rfl, rfl⟩ | exact ⟨_, rfl, rfl, rfl⟩)
          | 5, _, ho, _, _ => by
            cases ho
            rw [if_pos (wanted_none _ rfl)]
            have h1 := eval_getD (hm.get 4 75 (by kernel_rfl)); unfold Oper.wp; simp only [execOp]; go_simp; (first | exact ⟨_, rfl, rfl⟩ | exact ⟨_, rfl, rfl, rfl⟩)
          | 6, _, ho, _, _ => by
            cases ho
            rw [if_pos (wanted_none _ rfl)]
            refine wp_value (st_move rfl ((hs.keeps (by kernel_rfl)).trans rfl)) ⟨_, rfl, rfl, rfl⟩
          | 7, _, ho, _, _ => by
            cases ho
            rw [if_pos (wanted_none _ rfl)]
            refine wp_value (st_move rfl ((hs.keeps (by kernel_rfl)).trans rfl)) ⟨_, rfl, rfl, rfl⟩
          | 8, _, ho, _, _ => by
            cases ho
            rw [if_pos (wanted_none _ rfl)]
            have h1 := eval_getD (hm.get 6 77 (by kernel_rfl)); have h2 := eval_getD (hm.get 7 78 (by kernel_rfl)); unfold Oper.wp; simp only [execOp]; go_simp; (first | exact ⟨_, rfl, rfl⟩ | exact ⟨_, rfl, rfl, rfl⟩)
          | 9, _, ho, _, _ => by
            cases ho
            rw [if_pos (wanted_none _ rfl)]
            have h1 := eval_getD (hm.get 8 79 (by kernel_rfl)); unfold Oper.wp; simp only [execOp]; go_simp; (first | exact ⟨_, rfl, rfl⟩ | exact ⟨_, rfl, rfl, rfl⟩)
          | 10, _, ho, _, _ => by
            cases ho
            rw [if_pos (wanted_none _ rfl)]
            have h1 := eval_getD (hm.get 9 80 (by kernel_rfl)); unfold Oper.wp; simp only [execOp]; go_simp; (first | exact ⟨_, rfl, rfl⟩ | exact ⟨_, rfl, rfl, rfl⟩)
          | 11, _, ho, _, _ => by
            cases ho
            rw [if_pos (wanted_none _ rfl)]
            have h1 := eval_getD (hm.get 10 81 (by kernel_rfl)); unfold Oper.wp; simp only [execOp]; go_simp; (first | exact ⟨_, rfl, rfl⟩ | exact ⟨_, rfl, rfl, rfl⟩)
          | 12, _, ho, _, _ => by
            cases ho
            rw [if_pos (wanted_none _ rfl)]
            have h1 := eval_getD (hm.get 11 82 (by kernel_rfl)); unfold Oper.wp; simp only [execOp]; go_simp; (first | exact ⟨_, rfl, rfl⟩ | exact ⟨_, rfl, rfl, rfl⟩)
          | 13, _, ho, _, _ => by
            cases ho
            rw [if_pos (wanted_none _ rfl)]
            have h1 := eval_getD (hm.get 5 76 (by kernel_rfl)); have h2 := eval_getD (hm.get 12 83 (by kernel_rfl)); unfold Oper.wp; simp only [execOp]; go_simp; (first | exact ⟨_, rfl, rfl⟩ | exact ⟨_, rfl, rfl, rfl⟩)
          | 14, _, ho, _, _ => by
            cases ho
            rw [if_pos (wanted_none _ rfl)]
            refine wp_value (st_move rfl ((hs.keeps (by kernel_rfl)).trans rfl)) ⟨_, rfl, rfl, rfl⟩
          | 15, _, ho, _, _ => by
            cases ho
            rw [if_pos (wanted_none _ rfl)]
            refine wp_value (st_move rfl ((hs.keeps (by kernel_rfl)).trans rfl)) ⟨_, rfl, rfl, rfl⟩
          | 16, _, ho, _, _ => by
            cases ho
            rw [if_pos (wanted_none _ rfl)]
            have h1 := eval_getD (hm.get 14 85 (by kernel_rfl)); have h2 := eval_getD (hm.get 15 86 (by kernel_rfl)); unfold Oper.wp; simp only [execOp]; go_simp; (first | exact ⟨_, rfl, rfl⟩ | exact ⟨_, rfl, rfl, rfl⟩)
          | 17, _, ho, _, _ => by
            cases ho
            rw [if_pos (wanted_none _ rfl)]
            have h1 := eval_getD (hm.get 16 87 (by kernel_rfl)); unfold Oper.wp; simp only [execOp]; go_simp; (first | exact ⟨_, rfl, rfl⟩ | exact ⟨_, rfl, rfl, rfl⟩)
          | 18, _, ho, _, _ => by
            cases ho
            rw [if_pos (wanted_none _ rfl)]
            have h1 := eval_getD (hm.get 17 88 (by kernel_rfl)); unfold Oper.wp; simp only [execOp]; go_simp; (first | exact ⟨_, rfl, rfl⟩ | exact ⟨_, rfl, rfl, rfl⟩)
          | 19, _, ho, _, _ => by
            cases ho
            rw [if_pos (wanted_none _ rfl)]
            have h1 := eval_getD (hm.get 13 84 (by kernel_rfl)); have h2 := eval_getD (hm.get 18 89 (by kernel_rfl)); unfold Oper.wp; simp only [execOp]; go_simp; (first | exact ⟨_, rfl, rfl⟩ | exact ⟨_, rfl, rfl, rfl⟩)
          | 20, _, _, h, _ => absurd rfl h
          | 21, _, _, _, h => absurd rfl h
          | (n + 22), hi, _, _, _ => absurd hi (by omega)
         ·cases ho
          obtain rfl : w = W.drew := hj
          have h1 := eval_getD (hm.get 19 90 (by kernel_rfl))
          unfold Oper.wp
          simp only [execOp]
          go_simp
          exact ⟨_, rfl, show Value.slice _ _ _ = Value.slice _ _ _ by rw [Hg.out], rfl⟩
         ·have hj1 : w = W.drew.alloc (.cells #[S (fp.drop (xp.length + 1)), S fi] 76) := hj
          subst hj1
          obtain ⟨h1, h2, h3, h4, h5⟩ : a.eval (.tmp 71) = .slice A3 m3 c3 ∧ a.eval (.tmp 91) = .slice (some ⟨g, 0, none⟩) 1 1 ∧ o.op = .call { callee := .builtin .append, args := #[.tmp 71, .tmp 91], argTypes := #[22, 22] } ∧ o.dst = some 92 ∧ o.type = 22 := by
           cases ho
           exact ⟨hm.get 0 71 (by kernel_rfl), hm.get 20 91 (by kernel_rfl), rfl, rfl, rfl⟩
          rw [Hg.out] at h2
          have hr := Hrun.out
          simp only [World.size_drew] at hr
          unfold Oper.wp execOp
          simp only [h3, h5, resolve, invoke, builtin, Sem.run_bind, Sem.run_pure, Result.andThen_ok, List.map_toArray, List.map_cons, List.map_nil, h1, h2, hr]
          exact ⟨_, rfl, rfl, rfl⟩
         ·have e1 : a.eval (.tmp 92) = .slice A5 (m3 + 1) c5 := by cases ho; exact hm.get 21 92 (by kernel_rfl)
          have hfr := hs.frame [71, 72, 73, 74, 75, 76, 77, 78, 79, 80, 81, 82, 83, 84, 85, 86, 87, 88, 89, 90, 91, 92] (by kernel_rfl)
          cases ho
          obtain rfl : w = w5 := hj
          rw [hfr]
          simp only [List.foldl_cons, List.foldl_nil, e1]
          clear hfr hs hm e1
          generalize a.eval (.tmp 71) = u71, a.eval (.tmp 72) = u72, a.eval (.tmp 73) = u73, a.eval (.tmp 74) = u74, a.eval (.tmp 75) = u75, a.eval (.tmp 76) = u76, a.eval (.tmp 77) = u77, a.eval (.tmp 78) = u78, a.eval (.tmp 79) = u79, a.eval (.tmp 80) = u80, a.eval (.tmp 81) = u81, a.eval (.tmp 82) = u82, a.eval (.tmp 83) = u83, a.eval (.tmp 84) = u84, a.eval (.tmp 85) = u85, a.eval (.tmp 86) = u86, a.eval (.tmp 87) = u87, a.eval (.tmp 88) = u88, a.eval (.tmp 89) = u89, a.eval (.tmp 90) = u90, a.eval (.tmp 91) = u91
          unfold Oper.wp
          simp only [execOp]
          go_simp
          clear a
          go_wp2
          go_roundw
          case rel => exact ⟨j + 1, m3 + 1, c5, A5, by go_num, rfl, by omega, by omega, HF5⟩
          case measure => simp [intOf]; omega
        ·have CU : Hid (∀ V, Calls Tryz.prog 14 #[S fp, S xp] V fun e w' => e = .returned (.bool false) ∧ ∃ m, w' = V.drewN m) := Lib.hid (fun V => (runder_any fp xp V (Nat.le_trans hfp (by decide))).mono (by
          rintro e w' ⟨rfl, rfl⟩
          exact ⟨by rw [Bool.eq_false_iff.2 hu], 0, rfl⟩))
         have HN2 : Hid (inU (l.take (j + 1)) xp = inU (l.take j) xp) := Lib.hid (by rw [HN.out, if_neg hu, List.append_nil])
         clear hf HN hu
         go_wp2
         go_quiet ((go_at_call 14; exact Calls.quiet_of (CU.out _)))
         go_wp2
         go_roundw
         case rel => exact ⟨j + 1, m3, c3, A3, by go_num, rfl, by omega, by omega, Lib.hid (by rw [HN2.out]; exact HIn.out.keep (below_drewN (Below.refl _ _) _))⟩
         case measure => simp [intOf]; omega
       ·obtain rfl : j = k := by omega
        have d2 : decide ((j : Int) < (j : Int)) = false := decide_eq_false (by omega)
        have hin : inU (l.take j) xp = inOf l xp := by rw [List.take_of_length_le (by rw [Hln.out]; exact Nat.le_refl _), inOf_under Hxd.out]
        obtain ⟨hrm, hne⟩ := dir_room Hl.out (K := K) (out := raws) HX.out rfl
        simp only at hrm hne
        have hsh : ∀ f ∈ inOf l xp, f.1.length < K := inOf_len HK.out
        have hK0 : 0 < K := by
         obtain ⟨f, hf⟩ := List.exists_mem_of_ne_nil _ hne
         have := hsh f hf
         omega
        have HIo := HIn.out
        rw [hin] at HIo
        have HO3 := Lib.hid (HO.out.keep HIn.out.2)
        have HR3 := Lib.hid (HR.out.keep (.of_below HIn.out.2))
        have CB := Lib.hid (ih (inOf l xp) A3 m3 c3 w0 wr A' n' c' hs' (doneB K l raws i).2 hK0 (Hl.out.inOf xp) hsh (SlB.of_slT HIo.slT) HO3.out HR3.out (by have := Hroom.out; omega))
        have HE3 := Lib.hid (own_keepT HE.out (.of_below HIn.out.2))
        have HT3 : Hid (∀ T : TypeId, T ≠ 38 → KeepT T w wr) := Lib.hid (fun T hT => (HT.out T hT).step HIn.out.2)
        have hoff : off = 0 := by
         rcases HE.out.2 with ⟨hv, _⟩ | ⟨g, cap, cur, hv, _⟩
         ·injection hv with h1
          cases h1
         ·injection hv with h1
          cases h1
          rfl
        subst hoff
        obtain ⟨bq, hbq⟩ : ∃ bq, bq = buildL K (inOf l xp) (doneB K l raws i).2 := ⟨_, rfl⟩
        rw [← hbq] at CB
        have Hbq := Lib.hid hbq
        clear hin hrm hne hsh hK0 HIo hbq d1 x1
        go_wp2_with fail
        refine CB.out.mono ?_
        rintro e w5 ⟨A5, n5, c5, hs5, rfl, hO5, hR5, hT5⟩
        have HE5 := Lib.hid (own_keepT HE3.out (hT5 _ (by decide)))
        have hcells : w5.cell? ⟨b, i * 3 + 2, none⟩ = some (S xi) := by
         obtain ⟨b', off', y, e9, _, hy, _, _, y2⟩ := (Sl.of_own HE5.out).en hik
         cases e9
         have h1 := rowB_at (k := K) (out := raws) HX.out
         obtain rfl := Option.some.inj (hy.symm.trans h1)
         simpa using y2
        have hblk : ∃ (cur : Array Value) (fr : Nat × Nat), w5.heap[b]? = some (.cells cur 129 fr) ∧ w5.frozen? ⟨b, i * 3 + 2, none⟩ = false := by
         rcases HE5.out.2 with ⟨hv, _⟩ | ⟨g, cap, cur, hv, _, hh, _⟩
         ·injection hv with h1
          cases h1
         ·injection hv with h1
          cases h1
          exact ⟨_, _, hh, by simp [World.frozen?, hh]⟩
        obtain ⟨cur, fr, hh, fz⟩ := hblk
        have hbl := HE5.out.lt b rfl
        have HO6 : Hid (Ow w0 (w5.setCell ⟨b, i * 3 + 2, none⟩ (S bq.1)) 38 1 A5 n5 c5 (hs5.map Hd.v)) := Lib.hid (hO5.fr (Fr.setCell (E := fun k => k = b) (Fr.refl _ w5) (p := ⟨b, i * 3 + 2, none⟩) (show b = b from rfl) _) (fun q e => by
         subst e
         exact ⟨Nat.le_trans HB0.out.size hbl.1, fun e => own_type9 hO5.1 (by decide) e.symm _ _ hh⟩))
        have HR6 : Hid (RowsAt (w5.setCell ⟨b, i * 3 + 2, none⟩ (S bq.1)) hs5 bq.2) := Lib.hid (hR5.keep (KeepT.of_fr (Fr.setCell (E := fun k => k = b) (Fr.refl _ w5) (p := ⟨b, i * 3 + 2, none⟩) (show b = b from rfl) _) (fun q cs f2 e => by
         subst e
         exact own_type9 HE5.out (by decide) rfl cs f2)))
        have HE6 : Hid ((w5.setCell ⟨b, i * 3 + 2, none⟩ (S bq.1)).ownsRow w.heap.size 129 3 (.slice (some ⟨b, 0, none⟩) k1 c1) k1 (ens (rowB K l raws (i + 1)))) := Lib.hid (by
         have h1 := (HE5.out.stored (i * 3 + 2) (S bq.1)).1
         rw [HF.out.1, ← Hbq.out]
         have h2 := ens_set (rowB_at (k := K) (out := raws) HX.out) bq.1
         simp only at h2
         rw [h2]
         exact h1)
        have HT6 : Hid (∀ T : TypeId, T ≠ 38 → KeepT T w (w5.setCell ⟨b, i * 3 + 2, none⟩ (S bq.1))) := Lib.hid (fun T hT q cs f2 hq => (Below.heap_setCell w5 ⟨b, i * 3 + 2, none⟩ (S bq.1) q (fun e => by
         have h1 := heap_lt hq
         have h2 : q = b := e
         omega)).trans (hT5 T hT q cs f2 (HT3.out T hT q cs f2 hq)))
        have HZ6 : Hid (w.heap.size ≤ (w5.setCell ⟨b, i * 3 + 2, none⟩ (S bq.1)).heap.size) := Lib.hid (by rw [setCell_size]; omega)
        have HR7 : Hid (RowsAt (w5.setCell ⟨b, i * 3 + 2, none⟩ (S bq.1)) hs5 (doneB K l raws (i + 1)).2) := Lib.hid (by rw [HF.out.2, ← Hbq.out]; exact HR6.out)
        clear hO5 hR5 hT5 hh hbl CB
        go_wp2
        go_roundw
        case rel => exact ⟨i + 1, n5, c5, A5, hs5, by go_num, rfl, by omega, HO6, HR7, HE6, HT6, HZ6⟩
        case measure => simp [intOf]; omega
    ·obtain rfl : i = k1 := by omega
     have d1 : decide ((i : Int) < (i : Int)) = false := decide_eq_false (by omega)
     obtain ⟨es, hes⟩ : ∃ es, es = rowB K l raws i := ⟨_, rfl⟩
     have hfin : FineT es := by
      rw [hes, ← Hk1.out, rowB_all]
      exact es_fine9 Hl.out HK.out raws
     have hL : (encT es).length ≤ 600000 := encT_len hfin
     have HB : Hid (buildL (K + 1) l raws = (sumL (encT es), addR (doneB K l raws i).2 (encT es))) := Lib.hid (by rw [buildL_done, hes, ← Hk1.out])
     have hen := HE.out
     rw [← hes] at hen
     have CE := Lib.hid (renc_tree A1 i c1 es wr (Sl.of_own hen) (entsOk_of hfin) (by omega))
     have HfL : Hid (n' ≤ 1000000) := Lib.hid (by
      have h1 := buildL_len (K + 1) l raws Hl.out
      rw [HB.out] at h1
      have h2 := addR_ge (doneB K l raws i).2 (encT es)
      have h3 := HO.out.len
      have h4 := HR.out.1
      have h5 := Hroom.out
      simp only [List.length_map, Nat.mul_one] at h3
      simp only at h1
      omega)
     have He0 : Hid (0 < (encT es).length) := Lib.hid (by unfold encT; simp)
     clear hes hfin hen
     obtain ⟨raw, hraw⟩ : ∃ raw, raw = encT es := ⟨_, rfl⟩
     rw [← hraw] at CE HB He0 hL
     clear hraw
     go_wp2_with fail
     refine CE.out.mono ?_
     rintro e w5 ⟨A7, c7, rfl, hO7⟩
     obtain ⟨g7, hA7, _, _⟩ := hO7.form He0.out
     subst hA7
     have HO5 := Lib.hid (HO.out.keep hO7.2)
     have HR5 := Lib.hid (HR.out.keep (.of_below hO7.2))
     have HT5 : Hid (∀ T : TypeId, T ≠ 38 → KeepT T w w5) := Lib.hid (fun T hT => (HT.out T hT).step hO7.2)
     have HS5 : Hid (SlT (fun _ => True) 5 w5 1 (some ⟨g7, 0, none⟩) raw.length (u8s raw)) := Lib.hid (hO7.slT.weak (fun _ _ _ => trivial))
     have CA := Lib.hid (radd13_any w0 w5 A' n' c' hs' (doneB K l raws i).2 ⟨some (g7, 0), raw.length, c7⟩ raw HO5.out HR5.out HS5.out hO7.cap.1 HfL.out)
     clear hO7 CE
     go_wp2_with fail
     refine CA.out.mono ?_
     rintro e w6 ⟨A8, n8, c8, hs8, rfl, hO8, hR8, hT8⟩
     have HO8 := Lib.hid hO8
     have HR8 := Lib.hid hR8
     have HT8 := Lib.hid hT8
     have CS := Lib.hid (rsum_exact (some ⟨g7, 0, none⟩) raw.length c7 raw w6 (HS5.out.keep (hT8 _ (by decide))).sl (by omega))
     clear hO8 hR8 hT8 CA
     go_wp2_with fail
     refine CS.out.mono ?_
     rintro e w7 ⟨rfl, b7⟩
     have B7 := Lib.hid b7
     clear b7 CS
     go_wp2
     go_ret2
     refine ⟨A8, n8, c8, hs8, ?_, HO8.out.keep B7.out, ?_, fun T hT => ((HT5.out T hT).trans (HT8.out T hT)).step B7.out⟩
     ·rw [HB.out]
      rfl
     ·rw [HB.out]
      exact HR8.out.keep (.of_below B7.out)
end Go.Proofs.YtcednfmkiaelnaaGreatDoor

/-
  dolmenref13.add: a row of bytes among rows of bytes, once. Conditions: the rows can be read, the outer one one's own, no more than 1000000.
-/
import Derived.Test.YtcednfmkiaelnaaGreatDoorTKitTd
import Derived.Test.YtcednfmkiaelnaaGreatDoorTKitTk
import Derived.BigQuiet
namespace Go.Proofs.YtcednfmkiaelnaaGreatDoor
open Go.RowKit
open TreeLaw
open PathLaw (Bs)
theorem Tryz.infoByts : (Tryz.prog.info? 38).map (fun i => (i.zero, i.size, i.bytes)) = some (some (.slice none 0 0), 1, 24) := by kernel_rfl
theorem one_hds (hs : List Hd) : ∀ u ∈ hs.map Hd.v, u.oneCell' = true := by
 intro u hu
 obtain ⟨h, _, rfl⟩ := List.mem_map.1 hu
 rfl
theorem sl_one1 (w : World) (t : TypeId) (v : Value) : Sl (w.alloc (.cells #[v] t)) 1 (some ⟨w.heap.size, 0, none⟩) 1 [v] := by
 refine ⟨rfl, fun _ => ⟨_, _, rfl, by simp, fun k hk => ?_⟩⟩
 rw [Nat.zero_add]
 simp
theorem Sl.hd {w : World} {A : Option Addr} {n k : Nat} {hs : List Hd} (h : Sl w 1 A n (hs.map Hd.v)) (hk : k < n) : ∃ b off x, A = some ⟨b, off, none⟩ ∧ b < w.heap.size ∧ hs[k]? = some x ∧ w.cell? ⟨b, off + k, none⟩ = some x.v := by
 obtain ⟨b, off, rfl, hb, hc⟩ := h.2 (by omega)
 have hl : hs.length = n := by have := h.1; simpa using this
 obtain ⟨x, hx⟩ : ∃ x, hs[k]? = some x := ⟨hs[k]'(by omega), List.getElem?_eq_getElem _⟩
 refine ⟨b, off, x, rfl, hb, hx, ?_⟩
 rw [hc k (by omega), List.getElem?_map, hx]
 rfl
theorem RowsAt.at {w : World} {hs : List Hd} {raws : List Bs} (h : RowsAt w hs raws) {k : Nat} {x : Hd} (hx : hs[k]? = some x) : ∃ r, raws[k]? = some r ∧ SlT (fun _ => True) 5 w 1 x.a x.n (u8s r) := by
 have hk : k < hs.length := (List.getElem?_eq_some_iff.1 hx).1
 obtain ⟨r, hr⟩ : ∃ r, raws[k]? = some r := ⟨raws[k]'(by rw [← h.1]; exact hk), List.getElem?_eq_getElem _⟩
 exact ⟨r, hr, (h.2 k x r hx hr).1⟩
set_option maxRecDepth 100000 in
set_option maxHeartbeats 8000000 in
theorem radd13_any (w0 w : World) (A : Option Addr) (n c : Nat) (hs : List Hd) (raws : List Bs) (x : Hd) (raw : Bs) (hO : Ow w0 w 38 1 A n c (hs.map Hd.v)) (hR : RowsAt w hs raws)
  (hx : SlT (fun _ => True) 5 w 1 x.a x.n (u8s raw)) (hxc : x.n ≤ x.c) (hn : n ≤ 1000000) :
  Calls Tryz.prog 72 #[.slice A n c, x.v] w fun r w' => ∃ A' n' c' hs', r = .returned (.slice A' n' c') ∧ Ow w0 w' 38 1 A' n' c' (hs'.map Hd.v) ∧ RowsAt w' hs' (addR raws raw) ∧ ∀ T : TypeId, T ≠ 38 → KeepT T w w' := by
 obtain ⟨i0, hi0, hi1, hi2, hi3⟩ := info_parts Tryz.infoByts
 have hln : hs.length = n := by have := hO.len; simpa using this
 have Hln := Lib.hid hln
 have HO := Lib.hid hO
 have HR := Lib.hid hR
 have HX := Lib.hid hx
 have Hxc := Lib.hid hxc
 have Hcv := Lib.hid (fun (V : World) (hV : Below w.heap.size w V) => run_conv_str (P := Tryz.prog) V 38 9 5 x.a x.n x.c raw Tryz.underlying38 Tryz.underlying5 Tryz.underlying9 (hx.sl.below hV))
 clear hO hR hx hxc hln
 unfold Hd.v
 go_enter Tryz.func72, Tryz.ntmps72
 go_wp2
 go_loopw [5] (fun i wr => ∃ (k m : Nat), k ≤ n ∧ i = .int .i64 k ∧ wr = w.drewN m ∧ Hid (∀ r ∈ raws.take k, r ≠ raw)) (fun i _ => n - (intOf i).toNat)
 case atStart => exact ⟨0, 0, Nat.zero_le _, rfl, rfl, Lib.hid (fun e he => by simp at he)⟩
 case round =>
  obtain ⟨k, mm, hk, rfl, rfl, HK⟩ := hrel
  by_cases hki : k < n
  ·obtain ⟨b, off, y, rfl, _, hy, y0⟩ := HO.out.sl.hd hki
   obtain ⟨r, hr, hS⟩ := HR.out.at hy
   have Hr := Lib.hid hr
   have d0 : decide ((k : Int) < (n : Int)) = true := decide_eq_true (by omega)
   have hcv := fun q => run_conv_str (P := Tryz.prog) (w.drewN q) 38 9 5 y.a y.n y.c r Tryz.underlying38 Tryz.underlying5 Tryz.underlying9 (hS.sl.below (below_drewN (Below.refl _ _) _))
   have hcx := fun q => Hcv.out (w.drewN q) (below_drewN (Below.refl _ _) _)
   unfold Hd.v at y0
   clear hy hr hS
   by_cases h1 : r = raw
   ·have d1 : (r == raw) = true := beq_iff_eq.2 h1
    have Ha : Hid (addR raws raw = raws) := Lib.hid (by unfold addR; rw [if_pos (h1 ▸ List.mem_of_getElem? Hr.out)])
    clear h1
    go_wp2
    go_quiet (fail)
    go_wp2
    have hO9 : Ow w0 ((w.drewN mm).drewN nq) 38 1 (some ⟨b, off, none⟩) n c (hs.map Hd.v) := (HO.out.drewN _).drewN _
    have HO9 := Lib.hid hO9
    clear hO9
    go_ret
    refine ⟨_, _, _, _, rfl, HO9.out, ?_, fun T _ => fun _ _ _ h => h⟩
    rw [Ha.out]
    exact HR.out.keep (fun _ _ _ h => h)
   ·have d1 : (r == raw) = false := beq_eq_false_iff_ne.2 h1
    have HK2 : Hid (∀ r ∈ raws.take (k + 1), r ≠ raw) := Lib.hid (fun z hz => by
     rw [List.take_add_one, Hr.out] at hz
     simp only [Option.toList_some, List.mem_append, List.mem_singleton] at hz
     rcases hz with hz | rfl
     ·exact HK.out z hz
     ·exact h1)
    clear HK h1
    go_wp2
    go_quiet (fail)
    go_wp2
    go_roundw
    case rel => exact ⟨k + 1, _, by omega, by go_num, rfl, HK2⟩
    case measure => simp [intOf]; omega
  ·obtain rfl : k = n := by omega
   have d0 : decide ((k : Int) < (k : Int)) = false := decide_eq_false (by omega)
   have Ha : Hid (addR raws raw = raws ++ [raw]) := Lib.hid (by
    unfold addR
    rw [if_neg (fun h => HK.out raw (by rw [List.take_of_length_le (by rw [← HR.out.1, Hln.out]; exact Nat.le_refl _)]; exact h) rfl)])
   clear HK
   go_wp2_with (at_builtin; refine wpList_append_sl _ rfl (.tmp 21) (.tmp 23) _ rfl w0 38 i0 _ 1 24 Tryz.underlying24 hi0 hi1 hi2 hi3 rfl (by omega) A k c (hs.map Hd.v) rfl ((HO.out.drewN _).alloc _) (some ⟨w.heap.size, 0, none⟩) 1 _ [x.v] rfl (sl_one1 _ _ _) (one_hds [x]) (by simp only [maxLen]; omega) (by omega) ?_; intro A5 c5 w5 hO5 hg5 hat5)
   have HO6 : Hid (Ow w0 w5 38 1 A5 (k + 1) c5 ((hs ++ [x]).map Hd.v)) := Lib.hid (by rw [List.map_append]; exact hO5)
   have HT : Hid (∀ T : TypeId, T ≠ 38 → KeepT T w w5) := Lib.hid (fun T hT => KeepT.grown (KeepT.step (KeepT.drewN (KeepT.refl T w) mm) (balloc (Below.refl _ _) _)) hg5 (fun j hj => own_type9 ((HO.out.drewN mm).alloc _).1 (fun e => hT e.symm) hj))
   clear hO5 hg5 hat5
   go_ret
   refine ⟨_, _, _, _, rfl, HO6.out, ?_, HT.out⟩
   rw [Ha.out]
   exact (HR.out.keep (HT.out _ (by decide))).snoc (HX.out.keep (HT.out _ (by decide))) Hxc.out
end Go.Proofs.YtcednfmkiaelnaaGreatDoor

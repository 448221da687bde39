/-
  line.Split: bytes' lines. Conditions: the bytes read as a list, fewer than 4294967281; internal/bytealg.MaxLen holds an int.
-/
import Derived.Test.YtpnogcblafmaiaaDoorLineEnds
import Derived.Test.YtpnogcblafmaiaaDoorLinesLaw
import Derived.Test.YtpnogcblafmaiaaDoorShelf
import Derived.Outline
namespace Go.Proofs.YtpnogcblafmaiaaDoor
open Go.RowKit
open LinesLaw (lns sa)

/-- the library's variable holds an int -/
def MaxL (w : World) : Prop := ∃ m : Int, w.cell? ⟨0, 0, none⟩ = some (I m)
theorem MaxL.lt {w : World} (h : MaxL w) : 0 < w.heap.size := by obtain ⟨m, hm⟩ := h; exact World.block_lt_of_cell? _ _ hm
theorem MaxL.step {w w' : World} (h : MaxL w) (hb : Below w.heap.size w w') : MaxL w' := by
  have hl := h.lt
  obtain ⟨m, hm⟩ := h
  exact ⟨m, (hb.cell (p := ⟨0, 0, none⟩) hl).trans hm⟩

theorem str_mk (x : ByteArray) : Value.string x = S x.data.toList := by cases x; simp
theorem strs_of (l : List ByteArray) : l.map Value.string = strs (l.map (·.data.toList)) := by
  simp only [strs, List.map_map]
  exact List.map_congr_left (fun x _ => str_mk x)

set_option maxHeartbeats 400000 in
theorem splitAfter_any (b : List UInt8) (w : World) (hb : b.length < 4294967281) (hM : MaxL w) :
    Calls Tryd.prog 40 #[S b, S [10]] w fun e w' => e = .returned (.slice (some ⟨w.heap.size, 0, none⟩) (sa b).length (sa b).length) ∧ w' = w.alloc (.cells (strs (sa b)).toArray 9) := by
  obtain ⟨m, hm⟩ := hM
  have hsz : (⟨b.toArray⟩ : ByteArray).size = b.length := size_mk b
  have hle := Lib.countB_le ⟨#[10]⟩ (by decide) (⟨b.toArray⟩ : ByteArray).size ⟨b.toArray⟩ (Nat.le_refl _)
  have hlen := Lib.splitB_all ⟨#[10]⟩ (by decide) 1 _ ⟨b.toArray⟩ rfl
  have c := Tryd.strings_genSplit ⟨b.toArray⟩ ⟨#[10]⟩ 1 (-1) (Lib.countB ⟨b.toArray⟩ ⟨#[10]⟩ + 1) m w (by omega) hm (by decide) (by decide) (by decide) (by decide) (by rw [if_pos (by decide)]; omega)
  have hd := Lib.splitB_data ⟨#[10]⟩ 1 (Lib.countB ⟨b.toArray⟩ ⟨#[10]⟩) ⟨b.toArray⟩
  have hsa : Lib.splitK [10] 1 (Lib.countB ⟨b.toArray⟩ ⟨#[10]⟩) b = sa b := LinesLaw.split_sa _ _ rfl
  dsimp only at hd
  rw [hsa] at hd
  have hl2 : (sa b).length = Lib.countB ⟨b.toArray⟩ ⟨#[10]⟩ + 1 := by rw [← hd, List.length_map, hlen]
  rw [Nat.add_sub_cancel, hlen] at c
  have e2 : Lib.cellsOf (Lib.splitB ⟨#[10]⟩ 1 (Lib.countB ⟨b.toArray⟩ ⟨#[10]⟩) ⟨b.toArray⟩) (Lib.countB ⟨b.toArray⟩ ⟨#[10]⟩ + 1) = (strs (sa b)).toArray := by rw [← hd, ← strs_of, ← hlen]; exact Lib.cellsOf_full _
  rw [e2, ← hl2] at c
  have C := Lib.hid c
  clear c hlen hle hd hsa e2 hl2 hm
  go_enter Tryd.func40, Tryd.ntmps40
  go_wp2_with fail
  refine C.out.mono ?_
  rintro e w' ⟨rfl, hw⟩
  rw [hw]
  go_wp2
  go_ret
  exact ⟨rfl, rfl⟩

theorem emptyEnd_any (A : Option Addr) (m c : Nat) (ss : List (List UInt8)) (s : List UInt8) (w : World) (hA : Sl w 1 A (m + 1) (strs ss)) (hm : m ≤ 9223372036854775806) (hs : ss[m]? = some s) :
    Calls Tryd.prog 41 #[.slice A (m + 1) c] w fun e w' => e = .returned (I (if s = [] then 1 else 0 : Nat)) ∧ w = w' := by
  obtain ⟨b, off, s', rfl, hs', hc⟩ := hA.str (k := m) (by omega)
  obtain rfl : s' = s := Option.some.inj (hs'.symm.trans hs)
  clear hs hs'
  by_cases h : s' = []
  · subst h
    go_enter Tryd.func41, Tryd.ntmps41
    go_wp2
    go_ret
    exact ⟨rfl, rfl⟩
  · have h1 : s'.isEmpty = false := by simpa using h
    rw [if_neg h]
    go_enter Tryd.func41, Tryd.ntmps41
    go_wp2
    go_ret
    exact ⟨rfl, rfl⟩

/-- how many empty ends there are -/
theorem sa_end (b : List UInt8) : ∃ s m k, (sa b).length = m + 1 ∧ (sa b)[m]? = some s ∧ k = (if s = [] then 1 else 0 : Nat) ∧ (sa b).take (m + 1 - k) = lns b := by
  have h := LinesLaw.sa_lns b
  have hne := LinesLaw.sa_ne b
  obtain ⟨m, hm⟩ : ∃ m, (sa b).length = m + 1 := ⟨(sa b).length - 1, by have := List.length_pos_iff.2 hne; omega⟩
  obtain ⟨s, hs⟩ : ∃ s, (sa b)[m]? = some s := ⟨(sa b)[m]'(by omega), List.getElem?_eq_getElem _⟩
  refine ⟨s, m, _, hm, hs, rfl, ?_⟩
  by_cases hc : LinesLaw.closedB b = true
  · rw [if_pos hc] at h
    have hm' : (lns b).length = m := by have := congrArg List.length h; simp at this; omega
    have e : s = [] := by rw [h] at hs; rw [List.getElem?_append_right (by omega), hm'] at hs; simpa using hs.symm
    rw [if_pos e, h, Nat.add_sub_cancel, ← hm']
    simp
  · rw [if_neg hc, List.append_nil] at h
    have e : ¬ s = [] := fun e => by
      rw [h] at hs
      exact LinesLaw.lns_mem b s (List.mem_of_getElem? hs) e
    rw [if_neg e, h, Nat.sub_zero, ← hm, h, List.take_length]

set_option maxHeartbeats 1000000 in
theorem split_any (A : Option Addr) (n c : Nat) (b : List UInt8) (w : World) (hA : Sl w 1 A n (u8s b)) (hn : n < 4294967281) (hM : MaxL w) :
    Calls Tryd.prog 23 #[.slice A n c] w fun e w' => ∃ A' m' c', e = .returned (.slice A' m' c') ∧ m' ≤ c' ∧ m' ≤ n ∧ Sl w' 1 A' m' (strs (lns b)) ∧ Below w.heap.size w w' := by
  have hlb : b.length = n := by simpa using hA.len
  have kc := fun (W : World) (h : Sl W 1 A n (u8s b)) => run_conv_str (P := Tryd.prog) W 34 9 5 A n c b Tryd.underlying34 Tryd.underlying5 Tryd.underlying9 h
  have k1 := kc w hA
  clear kc
  obtain ⟨s, m, k, h1, h2, h3, h4⟩ := sa_end b
  have hsl := LinesLaw.sa_len b
  have hk : k ≤ 1 := by rw [h3]; split <;> omega
  have hC := Lib.hid (splitAfter_any b w (by omega) hM)
  have hbl := Blk.new w 9 (strs (sa b)).toArray
  have hS := Blk.sl hbl
  rw [List.length_map, h1] at hS
  rw [h1] at hC
  obtain ⟨r, hr⟩ : ∃ r, m + 1 - k = r := ⟨_, rfl⟩
  have hri : (m : Int) + 1 - (k : Int) = (r : Int) := by omega
  have kcut := fun W : World => run_cut_h (P := Tryd.prog) W Tryd.underlying22 Tryd.sizeStr (some ⟨w.heap.size, 0, none⟩) (m + 1) (m + 1) .i64 r (by omega)
  have hS2 := Sl.head_ (f := S) (l := sa b) hS (k := r) (c := m + 1) (by omega) (Nat.le_refl _)
  have hE := emptyEnd_any _ m (m + 1) (sa b) s _ hS (by omega) h2
  rw [← h3] at hE
  have hrl : r ≤ n := by
    have := LinesLaw.lns_len b
    rw [← h4, List.length_take, hr, h1] at this
    omega
  rw [hr] at h4
  rw [h4] at hS2
  have HE := Lib.hid hE
  have HS2 := Lib.hid hS2
  clear hE hS2 hS hbl h1 h2 h3 h4 hr hM hA hsl
  go_enter Tryd.func23, Tryd.ntmps23
  go_wp2_with fail
  refine hC.out.mono ?_
  rintro e w' ⟨rfl, hw⟩
  rw [hw]
  go_wp2_with fail
  refine HE.out.mono ?_
  rintro e w2 ⟨rfl, rfl⟩
  go_wp2
  go_ret
  exact ⟨_, r, _, rfl, by omega, hrl, HS2.out, balloc (Below.refl _ _) _⟩
end Go.Proofs.YtpnogcblafmaiaaDoor

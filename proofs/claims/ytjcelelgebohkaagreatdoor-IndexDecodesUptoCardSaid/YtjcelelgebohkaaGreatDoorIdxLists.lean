/-
  index: Files, Conflicts; the laws' id. Condition: the index lies in memory.
-/
import Derived.Test.YtjcelelgebohkaaGreatDoorIdxConf
namespace Go.Proofs.YtjcelelgebohkaaGreatDoor
open Go.RowKit
open IdxLaw (Ent Key zE sortE)

abbrev Fil := List UInt8 × List UInt8
def flC (f : Fil) : List Value := [S f.1, S f.2]
def fls (l : List Fil) : List Value := l.flatMap flC
theorem flC_len (l : List Fil) : ∀ x ∈ l, (flC x).length = 2 := fun _ _ => rfl
theorem fls_len (l : List Fil) : (fls l).length = l.length * 2 := flat_len (flC_len l)
theorem fls_append (l k : List Fil) : fls (l ++ k) = fls l ++ fls k := by simp [fls]
theorem one_fls (l : List Fil) : ∀ u ∈ fls l, u.oneCell' = true := by
  intro u hu
  obtain ⟨c, _, hu⟩ := List.mem_flatMap.1 hu
  simp [flC] at hu
  rcases hu with rfl | rfl <;> rfl
theorem fls_at {l : List Fil} {k j : Nat} {c : Fil} (h : l[k]? = some c) (hj : j < 2) : (fls l)[k * 2 + j]? = (flC c)[j]? := flat_at (flC_len l) h hj
theorem fls_count {w : World} {A : Option Addr} {m : Nat} {l : List Fil} (h : Sl w 2 A m (fls l)) : l.length = m := by have := h.1; rw [fls_len] at this; omega
theorem Sl.fil {w : World} {A : Option Addr} {m k : Nat} {l : List Fil} (h : Sl w 2 A m (fls l)) (hk : k < m) : ∃ b off c, A = some ⟨b, off, none⟩ ∧ b < w.heap.size ∧ l[k]? = some c ∧
    w.cell? ⟨b, off + k * 2, none⟩ = some (S c.1) ∧ w.cell? ⟨b, off + k * 2 + 1, none⟩ = some (S c.2) := by
  obtain ⟨b, off, rfl, hb, hc⟩ := h.2 (by omega)
  have hl := fls_count h
  obtain ⟨x, hx⟩ : ∃ x, l[k]? = some x := ⟨l[k]'(by omega), List.getElem?_eq_getElem _⟩
  refine ⟨b, off, x, rfl, hb, hx, ?_, ?_⟩
  · have := (hc (k * 2 + 0) (by omega)).trans (fls_at hx (by omega : 0 < 2)); simpa [flC] using this
  · have := (hc (k * 2 + 1) (by omega)).trans (fls_at hx (by omega : 1 < 2)); simpa [flC, Nat.add_assoc] using this
theorem sl_fil (w : World) (t : TypeId) (x : Fil) : Sl (w.alloc (.cells #[S x.1, S x.2] t)) 2 (some ⟨w.heap.size, 0, none⟩) 1 (fls [x]) := by
  refine ⟨by simp [fls, flC], fun _ => ⟨_, _, rfl, by simp, fun k hk => ?_⟩⟩
  rw [Nat.zero_add]
  simp [fls, flC]
theorem Tryz.infoFil : (Tryz.prog.info? 93).map (fun i => (i.zero, i.size, i.bytes)) = some (some (.agg #[.string ⟨#[]⟩, .string ⟨#[]⟩]), 2, 32) := by kernel_rfl

/-- the files of entries -/
def filesOf (l : List Ent) : List Fil := (l.filter (fun e => decide (e.stage = 0))).map (fun e => (e.path, e.id))
/-- the paths in conflict, each as often as it has entries -/
def confsOf (l : List Ent) : List (List UInt8) := (l.filter (fun e => decide (0 < e.stage))).map (·.path)
theorem filesOf_snoc {l : List Ent} {k : Nat} {x : Ent} (h : l[k]? = some x) : filesOf (l.take (k + 1)) = filesOf (l.take k) ++ (if x.stage = 0 then [(x.path, x.id)] else []) := by
  unfold filesOf
  rw [List.take_add_one, h, List.filter_append, List.map_append]
  by_cases hx : x.stage = 0 <;> simp [hx]
theorem confsOf_snoc {l : List Ent} {k : Nat} {x : Ent} (h : l[k]? = some x) : confsOf (l.take (k + 1)) = confsOf (l.take k) ++ (if 0 < x.stage then [x.path] else []) := by
  unfold confsOf
  rw [List.take_add_one, h, List.filter_append, List.map_append]
  by_cases hx : 0 < x.stage <;> simp [hx]
theorem filesOf_len (l : List Ent) (k : Nat) : (filesOf (l.take k)).length ≤ k := by
  unfold filesOf
  rw [List.length_map]
  exact Nat.le_trans (List.length_filter_le _ _) (List.length_take_le _ _)
theorem confsOf_len (l : List Ent) (k : Nat) : (confsOf (l.take k)).length ≤ k := by
  unfold confsOf
  rw [List.length_map]
  exact Nat.le_trans (List.length_filter_le _ _) (List.length_take_le _ _)

set_option maxRecDepth 100000 in
set_option maxHeartbeats 2000000 in
theorem files_any (w : World) (p m n : Nat) (l : List Ent) (hI : IdxAt w p m l n) (hn : n ≤ 1000000) :
    Calls Tryz.prog 16 #[.pointer (some ⟨p, 0, none⟩)] w fun e w' => ∃ (A : Option Addr) (t c : Nat), e = .returned (.slice A t c) ∧ t = (filesOf (sortE l)).length ∧ Ow w w' 93 2 A t c (fls (filesOf (sortE l))) := by
  obtain ⟨i0, hi0, hi1, hi2, hi3⟩ := info_parts Tryz.infoFil
  have hle : l.length ≤ 1000000 := by
    have h1 := hI.map.le
    simp [kd] at h1
    omega
  have C1 := Lib.hid (entries_any w p m n l hI hn)
  have hsl := (IdxLaw.sortE_perm l).length_eq
  generalize sortE l = E at *
  have Hsl := Lib.hid hsl
  clear hI hsl
  go_enter Tryz.func16, Tryz.ntmps16
  go_wp2_with (go_at_call 15; refine C1.out.mono ?_; rintro e w1 ⟨A, c, rfl, hO⟩; have HO := Lib.hid hO; clear hO)
  go_loopw [3, 9] (fun o i wr => ∃ (k co t : Nat) (Ao : Option Addr), i = .int .i64 k ∧ o = .slice Ao t co ∧ Hid (k ≤ l.length) ∧ Hid (t = (filesOf (E.take k)).length) ∧ Hid (Ow w1 wr 93 2 Ao t co (fls (filesOf (E.take k))))) (fun _ i _ => l.length - (intOf i).toNat)
  case atStart => exact ⟨0, 0, 0, none, rfl, rfl, Lib.hid (Nat.zero_le _), Lib.hid rfl, Lib.hid (Ow.nil_ (Below.refl _ _))⟩
  case round =>
    obtain ⟨k, co, t, Ao, rfl, rfl, hk, ht, hO⟩ := hrel
    by_cases hlt : k < l.length
    · obtain ⟨b, off, x, rfl, _, hx, x0, x1, x2, x3, x4⟩ := (HO.out.sl.below hO.out.2).ent hlt
      have Hx := Lib.hid hx
      have hbd : t ≤ 1000000 := by
        have h1 := filesOf_len E k
        have h2 := ht.out
        have h3 := hk.out
        omega
      clear hx
      obtain ⟨path, stage, id, size, stamp⟩ := x
      by_cases hs : stage = 0
      · subst hs
        have q1 : t + 1 ≤ maxLen := by simp only [maxLen]; omega
        have q2 : (t + 1) * 32 ≤ 140737488355328 := by omega
        have HS6 := Lib.hid (sl_fil (wr.alloc (.cells #[S path, I 0, S id, I size, I stamp] 36)) 93 (path, id))
        have HO6 := Lib.hid ((hO.out.alloc (.cells #[S path, I 0, S id, I size, I stamp] 36)).alloc (.cells #[S path, S id] 93))
        simp only [World.size_alloc] at HS6
        go_wp2_with (at_builtin; refine wpList_append_sl _ rfl (.tmp 16) (.tmp 22) _ rfl w1 93 i0 _ 2 32 Tryz.underlying46 hi0 hi1 hi2 hi3 rfl (by decide) Ao t co _ rfl HO6.out _ 1 1 (fls [(path, id)]) rfl HS6.out (one_fls _) q1 q2 ?_; intro A5 c5 w5 hO5 hg5 hat5; have HO5 := Lib.hid hO5; clear hO5 hg5 hat5)
        go_roundw
        case rel => exact ⟨k + 1, c5, t + 1, A5, by go_num, rfl, Lib.hid hlt, Lib.hid (by rw [filesOf_snoc Hx.out, if_pos rfl, List.length_append, ← ht.out]; rfl), Lib.hid (by rw [filesOf_snoc Hx.out, if_pos rfl, fls_append]; exact HO5.out)⟩
        case measure => simp [intOf]; omega
      · go_wp2
        go_roundw
        case rel => exact ⟨k + 1, co, t, Ao, by go_num, rfl, Lib.hid hlt, Lib.hid (by rw [filesOf_snoc Hx.out, if_neg hs, List.append_nil]; exact ht.out), Lib.hid (by rw [filesOf_snoc Hx.out, if_neg hs, List.append_nil]; exact hO.out.alloc _)⟩
        case measure => simp [intOf]; omega
    · obtain rfl : k = l.length := by have := hk.out; omega
      rw [List.take_of_length_le (by rw [Hsl.out]; exact Nat.le_refl _)] at ht hO
      go_wp2
      go_ret
      exact ⟨Ao, t, co, rfl, ht.out, hO.out.since HO.out.2⟩

/-- slices.Compact at texts of the call's own -/
theorem compact_any (w0 w : World) (A : Option Addr) (n c : Nat) (ss : List (List UInt8)) (hO : Ow w0 w 9 1 A n c (strs ss)) (hn : n ≤ 1000000) :
    Calls Tryz.prog 51 #[.slice A n c] w fun e w' => ∃ t, e = .returned (.slice A t c) ∧ t = (Lib.compact ss).length ∧ Sl w' 1 A t (strs (Lib.compact ss)) ∧ Below w0.heap.size w0 w' := by
  have hl : ss.length = n := by simpa using hO.sl.len
  have hcap := hO.cap
  rcases Nat.eq_zero_or_pos n with h0 | h0
  · subst h0
    obtain rfl : ss = [] := List.eq_nil_of_length_eq_zero hl
    refine (Tryz.slices_Compact_string_empty A c w).mono ?_
    rintro e w' ⟨rfl, rfl⟩
    exact ⟨0, rfl, rfl, hO.sl, hO.2⟩
  · obtain ⟨g, rfl, hg0, hg⟩ := hO.form h0
    subst hl
    have hH : Go.Sort.Holds encStr w g 0 ss.toArray := by
      rcases hO.1.2 with ⟨hv, _⟩ | ⟨g', cap', cur, hv, hbase, hb, h1, h2, h3, h4⟩
      · cases hv
      · cases hv
        refine holds_of_block hb ?_
        rw [Nat.mul_one] at h4
        exact h4
    refine (Tryz.slices_Compact_string g 0 c ss w hH (by omega) hcap.1).mono ?_
    rintro e w' ⟨rfl, q, rfl⟩
    have hle : (Lib.compact ss).length ≤ ss.length := by
      unfold Lib.compact Lib.compactUpTo
      rw [List.length_map]
      exact Nat.le_trans (List.length_filter_le _ _) (by simp)
    have hw : Go.Sort.putRow encStr (Go.Sort.ahead w q) g 0 (Lib.compact ss ++ List.replicate (ss.length - (Lib.compact ss).length) []).toArray = Go.Sort.grow (Go.Sort.putRow encStr (Go.Sort.ahead w q) g 0 (Lib.compact ss ++ List.replicate (ss.length - (Lib.compact ss).length) []).toArray) #[] := by
      unfold Go.Sort.grow
      rw [Array.append_empty]
    rw [hw]
    refine ⟨_, rfl, rfl, ?_, hO.2.grown (grownBy_sorted _) hO.2.size (fun k e => by cases e; exact hg0)⟩
    have hown : (Go.Sort.grow (Go.Sort.putRow encStr (Go.Sort.ahead w q) g 0 (Lib.compact ss ++ List.replicate (ss.length - (Lib.compact ss).length) []).toArray) #[]).ownsRow w0.heap.size 9 1 (.slice (some ⟨g, 0, none⟩) ss.length c) ss.length ((Lib.compact ss ++ List.replicate (ss.length - (Lib.compact ss).length) []).map encStr) := by
      rcases hO.1.2 with ⟨hv, _⟩ | ⟨g', cap', cur, hv, hbase, hb, h1, h2, h3, h4⟩
      · cases hv
      · cases hv
        exact ownsRow_sorted (by simp; omega) hbase hb h1 h2 h3
    have hS := Sl.of_own hown
    refine ⟨by simp, fun hp => ?_⟩
    obtain ⟨b, off, e1, hb, hc⟩ := hS.2 h0
    refine ⟨b, off, e1, hb, fun k hk => ?_⟩
    rw [hc k (by omega)]
    have hk' : k < (Lib.compact ss).length := by omega
    simp only [List.map_append, strs]
    rw [List.getElem?_append_left (by simpa using hk')]

set_option maxRecDepth 100000 in
set_option maxHeartbeats 2000000 in
theorem conflicts_any (w : World) (p m n : Nat) (l : List Ent) (hI : IdxAt w p m l n) (hn : n ≤ 1000000) :
    Calls Tryz.prog 17 #[.pointer (some ⟨p, 0, none⟩)] w fun e w' => ∃ (A : Option Addr) (t c : Nat), e = .returned (.slice A t c) ∧ t = (Lib.compact (confsOf (sortE l))).length ∧ Sl w' 1 A t (strs (Lib.compact (confsOf (sortE l)))) ∧ Below w.heap.size w w' := by
  obtain ⟨i0, hi0, hi1, hi2, hi3⟩ := info_parts Tryz.infoStr
  have hle : l.length ≤ 1000000 := by
    have h1 := hI.map.le
    simp [kd] at h1
    omega
  have C1 := Lib.hid (entries_any w p m n l hI hn)
  have hsl := (IdxLaw.sortE_perm l).length_eq
  generalize sortE l = E at *
  have Hsl := Lib.hid hsl
  clear hI hsl
  go_enter Tryz.func17, Tryz.ntmps17
  go_wp2_with (go_at_call 15; refine C1.out.mono ?_; rintro e w1 ⟨A, c, rfl, hO⟩; have HO := Lib.hid hO; clear hO)
  go_loopw [3, 9] (fun o i wr => ∃ (k co t : Nat) (Ao : Option Addr), i = .int .i64 k ∧ o = .slice Ao t co ∧ Hid (k ≤ l.length) ∧ Hid (t = (confsOf (E.take k)).length) ∧ Hid (Ow w1 wr 9 1 Ao t co (strs (confsOf (E.take k))))) (fun _ i _ => l.length - (intOf i).toNat)
  case atStart => exact ⟨0, 0, 0, none, rfl, rfl, Lib.hid (Nat.zero_le _), Lib.hid rfl, Lib.hid (Ow.nil_ (Below.refl _ _))⟩
  case round =>
    obtain ⟨k, co, t, Ao, rfl, rfl, hk, ht, hO⟩ := hrel
    have hbd : t ≤ 1000000 := by
      have h1 := confsOf_len E k
      have h2 := ht.out
      have h3 := hk.out
      omega
    by_cases hlt : k < l.length
    · obtain ⟨b, off, x, rfl, _, hx, x0, x1, x2, x3, x4⟩ := (HO.out.sl.below hO.out.2).ent hlt
      have Hx := Lib.hid hx
      clear hx
      obtain ⟨path, stage, id, size, stamp⟩ := x
      by_cases hs : 0 < stage
      · have q1 : t + 1 ≤ maxLen := by simp only [maxLen]; omega
        have q2 : (t + 1) * 16 ≤ 140737488355328 := by omega
        have HS6 := Lib.hid (sl_one (wr.alloc (.cells #[S path, I stage, S id, I size, I stamp] 36)) 9 (S path))
        have HO6 := Lib.hid ((hO.out.alloc (.cells #[S path, I stage, S id, I size, I stamp] 36)).alloc (.cells #[S path] 9))
        simp only [World.size_alloc] at HS6
        go_wp2_with (at_builtin; refine wpList_append_sl _ rfl (.tmp 16) (.tmp 19) _ rfl w1 9 i0 _ 1 16 Tryz.underlying48 hi0 hi1 hi2 hi3 rfl (by decide) Ao t co _ rfl HO6.out _ 1 1 [S path] rfl HS6.out (one_one rfl) q1 q2 ?_; intro A5 c5 w5 hO5 hg5 hat5; have HO5 := Lib.hid hO5; clear hO5 hg5 hat5)
        go_roundw
        case rel => exact ⟨k + 1, c5, t + 1, A5, by go_num, rfl, Lib.hid hlt, Lib.hid (by rw [confsOf_snoc Hx.out, if_pos hs, List.length_append, ← ht.out]; rfl), Lib.hid (by rw [confsOf_snoc Hx.out, if_pos hs]; have := HO5.out; simpa [strs] using this)⟩
        case measure => simp [intOf]; omega
      · go_wp2
        go_roundw
        case rel => exact ⟨k + 1, co, t, Ao, by go_num, rfl, Lib.hid hlt, Lib.hid (by rw [confsOf_snoc Hx.out, if_neg hs, List.append_nil]; exact ht.out), Lib.hid (by rw [confsOf_snoc Hx.out, if_neg hs, List.append_nil]; exact hO.out.alloc _)⟩
        case measure => simp [intOf]; omega
    · obtain rfl : k = l.length := by have := hk.out; omega
      rw [List.take_of_length_le (by rw [Hsl.out]; exact Nat.le_refl _)] at ht hO
      have C2 := Lib.hid (compact_any w1 wr Ao t co _ hO.out (by omega))
      go_wp2_with (go_at_call 51; refine C2.out.mono ?_; rintro e w5 ⟨t5, rfl, ht5, hS5, b5⟩; have Ht5 := Lib.hid ht5; clear ht5)
      go_ret
      exact ⟨Ao, t5, co, rfl, Ht5.out, hS5, bstep HO.out.2 b5⟩

set_option maxRecDepth 100000 in
set_option maxHeartbeats 2000000 in
theorem id_any (c : UInt8) (w : World) :
    Calls Tryz.prog 12 #[U8 c] w fun e w' => e = .returned (S (List.replicate 32 c)) ∧ Below w.heap.size w w' := by
  obtain ⟨i0, hi0, hi1, hi2, hi3⟩ := info_parts Tryz.infoU8
  go_enter Tryz.func12, Tryz.ntmps12
  go_wp2
  go_loopw [3, 4] (fun o i wr => ∃ (k co : Nat) (Ao : Option Addr), i = .int .i64 k ∧ o = .slice Ao k co ∧ Hid (k ≤ 32) ∧ Hid (Ow w wr 5 1 Ao k co (u8s (List.replicate k c)))) (fun _ i _ => 32 - (intOf i).toNat)
  case atStart => exact ⟨0, 0, none, rfl, rfl, Lib.hid (by omega), Lib.hid (Ow.nil_ (Below.refl _ _))⟩
  case round =>
    obtain ⟨k, co, Ao, rfl, rfl, hk, hO⟩ := hrel
    by_cases hlt : k < 32
    · have q1 : k + 1 ≤ maxLen := by simp only [maxLen]; omega
      have q2 : (k + 1) * 1 ≤ 140737488355328 := by omega
      have hd3 : decide ((k : Int) < 32) = true := by simp; omega
      have HS6 := Lib.hid (sl_one wr 5 (U8 c))
      have HO6 := Lib.hid (hO.out.alloc (.cells #[U8 c] 5))
      go_wp2_with (at_builtin; refine wpList_append_sl _ rfl (.tmp 9) (.tmp 11) _ rfl w 5 i0 _ 1 1 Tryz.underlying51 hi0 hi1 hi2 hi3 rfl (by decide) Ao k co _ rfl HO6.out _ 1 1 [U8 c] rfl HS6.out (one_one rfl) q1 q2 ?_; intro A5 c5 w5 hO5 hg5 hat5; have HO5 := Lib.hid hO5; clear hO5 hg5 hat5)
      go_roundw
      case rel => exact ⟨k + 1, c5, A5, by go_num, rfl, Lib.hid hlt, Lib.hid (by rw [List.replicate_succ']; have := HO5.out; simpa [u8s] using this)⟩
      case measure => simp [intOf]; omega
    · obtain rfl : k = 32 := by have := hk.out; omega
      have hcv := run_conv_str (P := Tryz.prog) wr 51 9 5 Ao 32 co (List.replicate 32 c) Tryz.underlying51 Tryz.underlying5 Tryz.underlying9 hO.out.sl
      generalize hr : List.replicate 32 c = r at *
      have Hr := Lib.hid hr
      clear hr
      go_wp2
      go_ret
      exact ⟨by rw [Hr.out]; rfl, hO.out.2⟩
end Go.Proofs.YtjcelelgebohkaaGreatDoor

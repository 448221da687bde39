/-
  The closures of line.Diff and (*walker).turn. Conditions: the walker's block and row, the table's blocks, as told.
-/
import Derived.Test.YtpnogcblafmaiaaDoorLineTable
import Derived.Test.YtpnogcblafmaiaaDoorOwn
import Derived.Deep.RegionLaw
import Derived.Outline
namespace Go.Proofs.YtpnogcblafmaiaaDoor
open Go.RowKit

open LineLaw (Hk)
/-- the cells of hunks -/
def hkc (h : Hk) : List Value := [I h.a0, I h.a1, I h.b0, I h.b1]
def hks (l : List Hk) : List Value := l.flatMap hkc
theorem hks_len (l : List Hk) : (hks l).length = l.length * 4 := by
  induction l with
  | nil => rfl
  | cons h l ih => rw [hks, List.flatMap_cons, List.length_append, ← hks, ih]; simp [hkc]; omega
theorem hks_append (l k : List Hk) : hks (l ++ k) = hks l ++ hks k := by simp [hks]
theorem hks_one (h : Hk) : hks [h] = hkc h := by simp [hks]
theorem one_hks (l : List Hk) : ∀ u ∈ hks l, u.oneCell' = true := by
  intro u hu
  obtain ⟨h, _, hu⟩ := List.mem_flatMap.1 hu
  simp [hkc] at hu
  rcases hu with rfl | rfl | rfl | rfl <;> rfl
theorem hks_set (done : List Hk) (h : Hk) (a b : Nat) : ((hks (done ++ [h])).set (done.length * 4 + 1) (I a)).set (done.length * 4 + 3) (I b) = hks (done ++ [{ h with a1 := a, b1 := b }]) := by
  rw [hks_append, hks_append, hks_one, hks_one, ← hks_len]
  simp [hkc]

set_option maxHeartbeats 1000000 in
theorem longest1_any (b n n' N i j : Nat) (ss ss' : List (List UInt8)) (cs : Array Value) (w : World) (hT : Tabs w b n' N cs) (hG : Tab ss ss' n n' 0 cs) (hN : (n + 1) * (n' + 1) = N) (hb : N ≤ 17592186044416) (hi : i ≤ n) (hj : j ≤ n') :
    Calls Tryd.prog 49 #[I i, I j, .pointer (some ⟨b + 1 + 1, 0, none⟩), .pointer (some ⟨b, 0, none⟩)] w fun e w' => e = .returned (I (LineLaw.L (ss.drop i) (ss'.drop j) : Nat)) ∧ w = w' := by
  obtain ⟨P, hP⟩ : ∃ P, i * (n' + 1) = P := ⟨_, rfl⟩
  have hPm : (i : Int) * ((n' : Int) + 1) = (P : Int) := by rw [← hP]; simp
  have hbd : P + j < N := by have := tab_lt hi hj; rw [hP, hN] at this; exact this
  have t := hG.val i j hi hj (.inl (Nat.zero_le _))
  rw [hP] at t
  have c0 := (hT.cells.cell _).trans t
  have r0 := hT.wide.cell 0
  have r2 := hT.row.cell 0
  simp at r0 r2
  have HP := Lib.hid hP
  clear hT hG hN hP t
  go_enter Tryd.func49, Tryd.ntmps49
  go_wp2
  go_ret
  exact ⟨rfl, rfl⟩

abbrev hkV (a0 a1 b0 b1 : Int) : Value := .agg #[I a0, I a1, I b0, I b1]

set_option maxHeartbeats 1000000 in
theorem diff1_any (pb : Nat) (p i j : Nat) (w : World) (hp : w.cell? ⟨pb, 0, none⟩ = some (I p)) (hb : p + i ≤ 9223372036854775807) (hb' : p + j ≤ 9223372036854775807) :
    Calls Tryd.prog 36 #[I i, I j, .pointer (some ⟨pb, 0, none⟩)] w fun e w' => e = .returned (hkV (p + i : Nat) (p + i : Nat) (p + j : Nat) (p + j : Nat)) ∧ Below w.heap.size w w' := by
  have hlt : pb < w.heap.size := World.block_lt_of_cell? _ _ hp
  go_enter Tryd.func36, Tryd.ntmps36
  go_wp2
  exact bodyPost_ret (v := hkV (p + i : Nat) (p + i : Nat) (p + j : Nat) (p + j : Nat)) (by simp [results, Tryd.results36, go_sem]) rfl ⟨rfl, balloc (Below.refl _ _) _⟩

theorem Tryd.infoHk : (Tryd.prog.info? 33).map (fun i => (i.zero, i.size, i.bytes)) = some (some (.agg #[I 0, I 0, I 0, I 0]), 4, 32) := by kernel_rfl

set_option maxHeartbeats 2000000 in
set_option maxRecDepth 100000 in
theorem turn_open (w0 w : World) (wb : Nat) (A : Option Addr) (c : Nat) (done : List Hk) (h : Hk) (i' j' : Nat) (f0 f1 f2 f3 t0 t2 : Int)
    (hW : Blk w wb 50 #[.slice A (done.length + 1) c, .bool true]) (hO : Ow w0 w 33 4 A (done.length + 1) c (hks (done ++ [h]))) (_h0 : w0.heap.size ≤ wb) (hb : done.length + 1 ≤ 1099511627776) :
    Calls Tryd.prog 37 #[.pointer (some ⟨wb, 0, none⟩), hkV f0 f1 f2 f3, hkV t0 i' t2 j'] w fun e w' => e = .returned (.tuple #[]) ∧
      Blk w' wb 50 #[.slice A (done.length + 1) c, .bool true] ∧ Ow w0 w' 33 4 A (done.length + 1) c (hks (done ++ [{ h with a1 := i', b1 := j' }])) := by
  obtain ⟨g, rfl, hg0, hg1⟩ := hO.form (by omega)
  have hne := row_ne hO hW (by decide)
  have hne' : ¬ wb = g := fun e => hne (by simp [Value.ownBlock, e])
  obtain ⟨m, hm⟩ : ∃ m, done.length = m := ⟨_, rfl⟩
  rw [hm] at hW hO hb ⊢
  have cA := (hO.1.cellAt (m * 4 + 1) (by omega)).trans (show _ = some (I h.a1) by rw [hks_append, ← hm, ← hks_len, hks_one]; simp [hkc])
  have cB := (hO.1.cellAt (m * 4 + 3) (by omega)).trans (show _ = some (I h.b1) by rw [hks_append, ← hm, ← hks_len, hks_one]; simp [hkc])
  have fA := hO.1.frozenAt
  have HW := Lib.hid hW
  have HO := Lib.hid hO
  have Hm := Lib.hid hm
  clear hm
  have r := hW.cell
  have hz := hW.lt
  clear hW hO hne
  go_enter Tryd.func37, Tryd.ntmps37
  go_wp2
  go_quiet (fail)
  go_wp2
  go_region
  go_wp2
  go_end0
  refine ⟨rfl, (((((HW.out.alloc _).alloc _).drewN _).far hne' _).far hne' _), ?_⟩
  rw [← hks_set, Hm.out]
  exact ((((HO.out.alloc _).alloc _).drewN _).set_ _ _).set_ _ _

theorem sl_hk (w : World) (t : TypeId) (h : Hk) (k : Nat) (hk : w.heap.size = k) : Sl (w.alloc (.cells #[I h.a0, I h.a1, I h.b0, I h.b1] t)) 4 (some ⟨k, 0, none⟩) 1 (hks [h]) := by
  subst hk
  refine ⟨by simp [hks_one, hkc], fun _ => ⟨_, _, rfl, by simp, fun k hk => ?_⟩⟩
  rw [Nat.zero_add, hks_one]
  simp [hkc]

set_option maxHeartbeats 2000000 in
set_option maxRecDepth 100000 in
theorem turn_shut (w0 w : World) (wb : Nat) (A : Option Addr) (n c : Nat) (done : List Hk) (h : Hk) (i' j' : Nat) (t0 t2 : Int)
    (hW : Blk w wb 50 #[.slice A n c, .bool false]) (hO : Ow w0 w 33 4 A n c (hks done)) (h0 : w0.heap.size ≤ wb) (hb : n + 1 ≤ 1099511627776) :
    Calls Tryd.prog 37 #[.pointer (some ⟨wb, 0, none⟩), hkV h.a0 h.a1 h.b0 h.b1, hkV t0 i' t2 j'] w fun e w' => e = .returned (.tuple #[]) ∧
      ∃ A' c', Blk w' wb 50 #[.slice A' (n + 1) c', .bool true] ∧ Ow w0 w' 33 4 A' (n + 1) c' (hks (done ++ [{ h with a1 := i', b1 := j' }])) := by
  obtain ⟨i0, hi0, hi1, hi2, hi3⟩ := info_parts Tryd.infoHk
  have hdl : done.length = n := by have := hO.len; rw [hks_len] at this; omega
  have hmm : n + 1 ≤ maxLen := by simp only [maxLen]; omega
  have hnn : (n + 1) * 32 ≤ 140737488355328 := by omega
  have HW := Lib.hid hW
  have HO := Lib.hid hO
  have Hdl := Lib.hid hdl
  have r := hW.cell
  have hz := hW.lt
  have hz1 : wb < w.heap.size + 1 := by omega
  have hz2 : wb < w.heap.size + 1 + 1 := by omega
  have f := hW.frozen
  clear hW hO hdl
  go_enter Tryd.func37, Tryd.ntmps37
  go_wp2_with fail
  have hOx := Lib.hid ((((HO.out.alloc (.cells #[I h.a0, I h.a1, I h.b0, I h.b1] 33)).alloc (.cells #[I t0, I i', I t2, I j'] 33)).alloc (.cells #[I h.a0, I h.a1, I h.b0, I h.b1] 33)).drew)
  have hWx := Lib.hid ((((HW.out.alloc (.cells #[I h.a0, I h.a1, I h.b0, I h.b1] 33)).alloc (.cells #[I t0, I i', I t2, I j'] 33)).alloc (.cells #[I h.a0, I h.a1, I h.b0, I h.b1] 33)).drew)
  have hSx := Lib.hid ((sl_hk ((w.alloc (.cells #[I h.a0, I h.a1, I h.b0, I h.b1] 33)).alloc (.cells #[I t0, I i', I t2, I j'] 33)) 33 h (w.heap.size + 1 + 1) (by simp)).drew)
  go_region_law ((refine step_append_sl _ (by rfl) (.tmp 16) (.tmp 18) _ (by rfl) w0 33 i0 _ 4 32 Tryd.underlying27 hi0 hi1 hi2 hi3 rfl (by decide) A n c _ (by rfl) hOx.out _ 1 1 (hks [h]) (by rfl) hSx.out (one_hks _) hmm hnn ?_; intro A1 c1 w1 hO1 hg1 hat1; have hW1 := hWx.out.grown hg1 (row_ne hOx.out hWx.out (by decide)); have k1 := hW1.cell; have f1 := hW1.frozen))
  all_goals
    obtain ⟨g, rfl, hg0, hg2⟩ := hO1.form (by omega)
    have hown : ∀ k, (Value.slice A n c).ownBlock = some k → k < w.heap.size := fun k hk => (HO.out.1.lt k hk).2
    have hgne : ¬ g = w.heap.size + 1 := by
      rintro rfl
      rcases hat1 with h1 | h1
      · have h2 : w.heap.size + 1 < w.heap.size := hown _ (h1.symm.trans rfl)
        omega
      · simp [Value.ownBlock] at h1
    have hT1 : Blk w1 (w.heap.size + 1) 33 #[I t0, I i', I t2, I j'] := by
      have hb0 := Blk.new (w.alloc (.cells #[I h.a0, I h.a1, I h.b0, I h.b1] 33)) 33 #[I t0, I i', I t2, I j']
      rw [World.size_alloc] at hb0
      exact ((hb0.alloc (.cells #[I h.a0, I h.a1, I h.b0, I h.b1] 33)).drew).grown hg1 (fun e => by have := hown _ e.symm; omega)
    have hWg : ¬ wb = g := fun e => row_ne hO1 hW1 (by decide) (by simp [Value.ownBlock, e])
    have hxs : hks done ++ hks [h] = hks (done ++ [h]) := (hks_append _ _).symm
    rw [hxs] at hO1
    have cA := (hO1.1.cellAt (n * 4 + 1) (by omega)).trans (show _ = some (I h.a1) by rw [hks_append, ← Hdl.out, ← hks_len, hks_one]; simp [hkc])
    have cB := (hO1.1.cellAt (n * 4 + 3) (by omega)).trans (show _ = some (I h.b1) by rw [hks_append, ← Hdl.out, ← hks_len, hks_one]; simp [hkc])
    have fA := hO1.1.frozenAt
    have rT := hT1.cell
    have hzT := hT1.lt
    have hzW := hW1.lt
    have HO1 := Lib.hid hO1
    have HW1 := Lib.hid hW1
    have hwT : ¬ wb = w.heap.size + 1 := by omega
    clear hO1 hW1 hT1 hat1 hg1 hown hxs r f hOx hWx hSx
    go_wp2
    go_quiet (fail)
    go_wp2
    go_region
    go_wp2
    go_end0
    refine ⟨rfl, _, _, (((((HW1.out.set_ 0 _).set_ 1 _).drewN _).far hWg _).far hWg _), ?_⟩
    rw [← hks_set, Hdl.out]
    exact ((((HO1.out.far (p := ⟨wb, 0, none⟩) (row_ne HO1.out HW1.out (by decide)) h0 _).far (p := ⟨wb, 1, none⟩) (row_ne HO1.out HW1.out (by decide)) h0 _).drewN _).set_ _ _).set_ _ _
end Go.Proofs.YtpnogcblafmaiaaDoor

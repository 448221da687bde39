/-
  refs.Book.Trim. Condition: the book lies in its home.
-/
import Derived.Test.YtegehaokfcamfaaGreatDoorRefsResolve
namespace Go.Proofs.YtegehaokfcamfaaGreatDoor
open Go.RowKit
open RefsLaw (named okc Val Chg Txn there rightV zv rightT okChs goodC Refs Book Inv)

theorem Tryz.sizeTxn (w : World) : (sizeOf 37).run Tryz.prog w = .ok 4 w := by kernel_rfl
theorem txs_drop (l : List TxG) : ∀ k, txs (l.drop k) = (txs l).drop (k * 4) := by
  induction l with
  | nil => intro k; simp [txs]
  | cons x l ih =>
    intro k
    cases k with
    | zero => simp
    | succ k =>
      rw [List.drop_succ_cons, ih k, txs, txs, List.flatMap_cons, List.drop_append, show x.cells.length = 4 from rfl, show (k + 1) * 4 - 4 = k * 4 by omega]
      have e : x.cells.drop ((k + 1) * 4) = [] := List.drop_eq_nil_of_le (by show 4 ≤ _; omega)
      rw [e, List.nil_append]
theorem trim_none {bk : Book} {keep : Int} (h : bk.txns.length ≤ keep.toNat) : RefsLaw.trim bk keep = bk := by
  rw [RefsLaw.trim, show bk.txns.length - keep.toNat = 0 by omega, List.drop_zero]

theorem own_cap {w : World} {base sz n c : Nat} {e : TypeId} {A : Option Addr} {xs : List Value} (h : w.ownsRow base e sz (.slice A n c) n xs) : n ≤ c := by
  rcases h.2 with ⟨hv, h0⟩ | ⟨g, cap, cur, hv, _, _, h1, h2, _, _⟩
  · omega
  · injection hv with _ _ h3; subst h3; exact h1

set_option maxHeartbeats 2000000 in
set_option maxRecDepth 100000 in
theorem bookTrim_any (w : World) (p : Nat) (H : Nat → Prop) (bk : Book) (z : Nat) (keep : Int) (hB : BookAt w p H bk z) (hz : z ≤ 1000000) (hk : -9223372036854775808 ≤ keep ∧ keep ≤ 9223372036854775807) :
    Calls Tryz.prog 17 #[.pointer (some ⟨p, 0, none⟩), I keep] w fun e w' => e = .returned (.tuple #[]) ∧ BookAt w' p (ext H w w') (RefsLaw.trim bk keep) z ∧ Fr H w w' := by
  obtain ⟨m, A, n, c, xs, cnt, hI⟩ := hB
  have hlen := hI.len
  have hcap := hI.cap
  have HI := Lib.hid hI
  have C := Lib.hid (all_any w p H bk z m A n c xs cnt hI)
  have rb := hI.blk.cell
  obtain ⟨k1, k2⟩ := hk
  have hn : n ≤ 1000000 := by omega
  obtain ⟨k, hkk⟩ : ∃ k, keep.toNat = k := ⟨_, rfl⟩
  have hmx : max keep 0 = (k : Int) := by omega
  have hkb : k ≤ 9223372036854775807 := by omega
  by_cases hle : n ≤ k
  · have ht := Lib.hid (trim_none (bk := bk) (keep := keep) (by omega))
    have hd : decide (0 < (n : Int) - (k : Int)) = false := by simp; omega
    clear hI hlen hcap hkk
    go_enter Tryz.func17, Tryz.ntmps17
    go_wp2_with (go_at_call 23; refine C.out.mono ?_; rintro e w' ⟨rfl, rfl⟩)
    all_goals try omega
    go_end0
    exact ⟨rfl, by rw [ht.out]; exact BookAt.weak ⟨m, A, n, c, xs, cnt, HI.out⟩ (fun _ _ h => .inl h) (Nat.le_refl _), Fr.refl _ _⟩
  · obtain ⟨d, hd⟩ : ∃ d, n - k = d := ⟨_, rfl⟩
    have hdi : (n : Int) - (k : Int) = (d : Int) := by omega
    have kX := fun W : World => run_cut_l (P := Tryz.prog) W Tryz.underlying61 Tryz.sizeTxn A n c .i64 d (by omega)
    have hSl := hI.sl
    have hnc : n ≤ c := own_cap hI.row
    have hcut : Sl w 4 (cutA A c d 4) (n - d) (txs (xs.drop d)) := by
      have := hSl.cut (l := d) (r := n) (c := c) (by omega) (Nat.le_refl _) hnc
      rw [txs_drop]
      rwa [List.take_of_length_le (by rw [List.length_drop, hSl.1, Nat.sub_mul]; exact Nat.le_refl _)] at this
    have C2 := Lib.hid (cloneT_any (cutA A c d 4) (n - d) (c - d) (xs.drop d) w hcut (by omega))
    have hd0 : 0 < d := by omega
    have hdn : d ≤ n := by omega
    have ht := Lib.hid (show RefsLaw.trim bk keep = ⟨bk.f, bk.txns.drop d⟩ by rw [RefsLaw.trim, hlen, hkk, hd])
    have HK := Lib.hid hkk
    clear hI hlen hcap hkk hd hSl hcut
    go_enter Tryz.func17, Tryz.ntmps17
    go_wp2_with (first
      | (go_at_call 23; refine C.out.mono ?_; rintro e w' ⟨rfl, rfl⟩)
      | (go_at_call 40; refine C2.out.mono ?_; rintro e w1 ⟨A1, c1, rfl, hO⟩; have hB1 := HI.out.blk.step hO.2; have rb1 := hB1.cell; have fb1 := hB1.frozen))
    go_end0
    have hI := HI.out
    have hinv := RefsLaw.inv_trim hI.inv keep
    rw [ht.out] at hinv ⊢
    have hrow : w1.ownsRow 0 37 4 (.slice A1 (n - d) c1) (n - d) (txs (xs.drop d)) := own_mono hO.1 (Nat.zero_le _)
    have kk : KeepT 58 w (w1.setCell ⟨p, 1, none⟩ (.slice A1 (n - d) c1)) := (KeepT.of_below hO.2).setCell hB1 (by decide) rfl _
    have hsz : (w1.setCell ⟨p, 1, none⟩ (.slice A1 (n - d) c1)).heap.size = w1.heap.size := setCell_size _ _ _
    refine ⟨rfl, ⟨m, A1, n - d, c1, xs.drop d, cnt, ?_⟩, (Fr.of_below hO.2).setCell hI.hp _⟩
    refine ⟨hB1.set_ 1 _, (hI.map.step hO.2).far (hI.map.ne_blk hI.blk) _, own_far hrow (row_ne0 hrow hB1 (by decide)) _, .inl hI.hp, .inl hI.hm, fun g hgo => ?_, by rw [List.map_drop, hI.txns], fun y hy => ((hI.chg y (List.mem_of_mem_drop hy)).keep kk).weak (fun k _ h => .inl h), hinv, ?_⟩
    · have h1 := (hO.1.lt _ hgo).1
      have h2 := (hO.1.lt _ hgo).2
      exact .inr ⟨h1, by omega⟩
    · have := hI.cap
      exact ⟨this.1, by omega⟩
end Go.Proofs.YtegehaokfcamfaaGreatDoor

/-
  refs.Book.Resolve and Trim. Conditions: the book lies in its home; MaxLen holds an int.
-/
import Derived.Test.YtegehaokfcamfaaGreatDoorRefsApply
import Derived.Lib.SmallJoins
namespace Go.Proofs.YtegehaokfcamfaaGreatDoor
open Go.RowKit
open RefsLaw (named okc Val Chg Txn there rightV zv rightT okChs goodC Refs Book Inv)

theorem named_len {s : List UInt8} (h : named s = true) : s.length ≤ 200 := by
  unfold named at h
  simp only [Bool.and_eq_true, decide_eq_true_eq] at h
  exact h.1.1.1.1.2
theorem inv_name {bk : Book} (h : Inv bk) (r : List UInt8) : (bk.f r).name.length ≤ 200 := by
  rcases h.val r with e | ⟨_, e⟩
  · rw [e]; exact Nat.zero_le _
  · rw [there_iff] at e
    rcases e with ⟨_, e⟩ | ⟨_, e⟩
    · rw [e]; exact Nat.zero_le _
    · exact named_len e
theorem follow_stop {f : Refs} {j : Nat} {r : List UInt8} (h : (f r).name = []) : RefsLaw.follow f j r = if (f r).id = [] then (r, [], 9) else (r, (f r).id, 0) := by
  unfold RefsLaw.follow
  rw [if_pos h]
theorem follow_end {f : Refs} {r : List UInt8} (h : ¬ (f r).name = []) : RefsLaw.follow f 0 r = (r, [], 9) := by
  unfold RefsLaw.follow
  rw [if_neg h]
theorem follow_on {f : Refs} {j : Nat} {r : List UInt8} (h : ¬ (f r).name = []) : RefsLaw.follow f (j + 1) r = RefsLaw.follow f j (f r).name := by
  rw [RefsLaw.follow, if_neg h]
def resV (x : List UInt8 × List UInt8 × Nat) : Value := .tuple #[S x.1, S x.2.1, I x.2.2]

set_option maxHeartbeats 2000000 in
set_option maxRecDepth 100000 in
theorem resolve_any (w : World) (p : Nat) (H : Nat → Prop) (bk : Book) (z : Nat) (ref : List UInt8) (hB : BookAt w p H bk z) (hr : ref.length ≤ maxLen) (hM : MaxL w) :
    Calls Tryz.prog 19 #[.pointer (some ⟨p, 0, none⟩), S ref] w fun e w' => e = .returned (resV (RefsLaw.resolve bk ref)) ∧ Below w.heap.size w w' := by
  have HB := Lib.hid hB
  have C0 := Lib.hid (named_any ref w hM)
  have hinv : ∀ r, (bk.f r).name.length ≤ 200 := by
    obtain ⟨m, A, n, c, xs, cnt, h⟩ := hB
    exact inv_name h.inv
  have HN := Lib.hid hinv
  clear hB hinv
  rcases hn : named ref with _ | _
  · have hres := Lib.hid (show RefsLaw.resolve bk ref = ([], [], 1) by rw [RefsLaw.resolve, if_neg (by simp [hn])])
    rw [hn] at C0
    clear hn
    go_enter Tryz.func19, Tryz.ntmps19
    go_wp2_with (go_at_call 30; refine C0.out.mono ?_; rintro e w1 ⟨rfl, b1⟩)
    go_ret3
    exact ⟨by rw [hres.out]; rfl, b1⟩
  · have hres := Lib.hid (show RefsLaw.resolve bk ref = RefsLaw.follow bk.f 8 ref by rw [RefsLaw.resolve, if_pos hn])
    rw [hn] at C0
    clear hn
    go_enter Tryz.func19, Tryz.ntmps19
    go_wp2_with (first
      | (go_at_call 30; refine C0.out.mono ?_; rintro e w1 ⟨rfl, b1⟩)
      | (go_at_call 26; refine (value_any _ p H bk z ref (HB.out.step b1) hr).mono ?_; rintro e w2 ⟨rfl, b2⟩; have q2 := Lib.hid (bstep b1 b2); have N2 := Lib.hid (Blk.new w2 43 #[S (bk.f ref).id, S (bk.f ref).name]); have Q3 := Lib.hid (balloc q2.out (.cells #[S (bk.f ref).id, S (bk.f ref).name] 43)); clear b1 b2))
    go_loopw [1, 8] (fun s i wr => ∃ (k : Nat) (r : List UInt8), k ≤ 8 ∧ i = .int .i64 k ∧ s = S r ∧ Blk wr w2.heap.size 43 #[S (bk.f r).id, S (bk.f r).name] ∧ Below w.heap.size w wr ∧ Hid (RefsLaw.follow bk.f 8 ref = RefsLaw.follow bk.f (8 - k) r)) (fun _ i _ => 8 - (intOf i).toNat)
    case atStart => exact ⟨0, ref, by omega, rfl, rfl, N2.out, Q3.out, Lib.hid rfl⟩
    case round =>
      obtain ⟨k, r, hk, rfl, rfl, hV, hq, hfo⟩ := hrel
      have rv := hV.cell
      have fv := hV.frozen
      have HV := Lib.hid hV
      have HQ := Lib.hid hq
      clear hV hq
      by_cases hnm : (bk.f r).name = []
      · have hst := follow_stop (f := bk.f) (j := 8 - k) hnm
        have Hst := Lib.hid hst
        clear hst
        by_cases hid : (bk.f r).id = []
        · go_wp2
          go_ret3
          exact ⟨by rw [hres.out, hfo.out, Hst.out, if_pos hid]; rfl, HQ.out⟩
        · have hie : (bk.f r).id.isEmpty = false := by simpa using hid
          go_wp2
          go_quiet (fail)
          go_wp2
          go_ret3
          exact ⟨by rw [hres.out, hfo.out, Hst.out, if_neg hid]; rfl, below_drewN HQ.out _⟩
      · have hne : (bk.f r).name.isEmpty = false := by simpa using hnm
        by_cases h8 : k = 8
        · subst h8
          have Hst := Lib.hid (follow_end (f := bk.f) hnm)
          go_wp2
          go_ret3
          exact ⟨by rw [hres.out, hfo.out]; exact (congrArg (fun x => Ending.returned (resV x)) Hst.out).symm, HQ.out⟩
        · have h8b : ((k : Int) == 8) = false := by simp; omega
          obtain ⟨j, hj⟩ : ∃ j, 8 - k = j + 1 := ⟨7 - k, by omega⟩
          have Hon := Lib.hid (follow_on (f := bk.f) (j := j) hnm)
          have hln := HN.out r
          have hlm : (bk.f r).name.length ≤ maxLen := by simp only [maxLen]; omega
          have C2 := Lib.hid (value_any wr p H bk z (bk.f r).name (HB.out.step HQ.out) hlm)
          have Hj := Lib.hid hj
          clear hln hlm hj
          go_wp2_with (go_at_call 26; refine C2.out.mono ?_; rintro e w3 ⟨rfl, b3⟩; have hV3 := HV.out.step b3; have rv3 := hV3.cell; have fv3 := hV3.frozen)
          go_roundw
          case rel => exact ⟨k + 1, (bk.f r).name, by omega, by go_num, rfl, (hV3.set_ 0 _).set_ 1 _, ((bstep HQ.out b3).setCell q2.out.size _).setCell q2.out.size _, Lib.hid (by rw [hfo.out, Hj.out, Hon.out]; congr 1; have := Hj.out; omega)⟩
          case measure => simp [intOf]; omega
end Go.Proofs.YtegehaokfcamfaaGreatDoor

/-
  dolmenlaw11.RefsFollow returns true, and nothing that lay before has turned. Conditions: the script reads as a list of operations; the ref is a text.
-/
import Derived.Test.YtmpjkjpfdkmhlaaDoorMade
import Derived.Test.YtmpjkjpfdkmhlaaDoorAwake11
namespace Go.Proofs.YtmpjkjpfdkmhlaaDoor
open Go.RowKit
open RefsLaw (Val Chg Txn rightT Book named)

/-- what the law's tests see of a book: the ref's value, where it leads, where its name leads -/
theorem follow_cases {bk : Book} (h : RefsLaw.Inv bk) (ref : List UInt8) :
    (named ref = false ∧ (RefsLaw.get bk ref).2 = 1 ∧ RefsLaw.resolve bk ref = ([], [], 1)) ∨
    (named ref = true ∧ (RefsLaw.get bk ref).2 = 9 ∧ RefsLaw.resolve bk ref = (ref, [], 9)) ∨
    (named ref = true ∧ (RefsLaw.get bk ref).2 = 0 ∧ (RefsLaw.get bk ref).1.name = [] ∧ RefsLaw.resolve bk ref = (ref, (RefsLaw.get bk ref).1.id, 0)) ∨
    (named ref = true ∧ (RefsLaw.get bk ref).2 = 0 ∧ (RefsLaw.get bk ref).1.name ≠ [] ∧ (RefsLaw.get bk ref).1.name.length ≤ 200 ∧
      ((RefsLaw.resolve bk (RefsLaw.get bk ref).1.name).2.2 = 0 ∧ (RefsLaw.resolve bk ref).2.2 = 0 ∧ (RefsLaw.resolve bk (RefsLaw.get bk ref).1.name).1 = (RefsLaw.resolve bk ref).1 ∧ (RefsLaw.resolve bk (RefsLaw.get bk ref).1.name).2.1 = (RefsLaw.resolve bk ref).2.1 ∨
        ((RefsLaw.resolve bk (RefsLaw.get bk ref).1.name).2.2 ≠ 0 ∨ (RefsLaw.resolve bk ref).2.2 ≠ 0) ∧ (RefsLaw.resolve bk ref).2.2 = 9 ∧ (RefsLaw.resolve bk ref).2.1 = [])) := by
  by_cases hn : named ref = true
  · right
    have hg : RefsLaw.get bk ref = (bk.f ref, if bk.f ref = RefsLaw.zv then 9 else 0) := by rw [RefsLaw.get, if_pos hn]
    rw [hg]
    by_cases hz : bk.f ref = RefsLaw.zv
    · left
      refine ⟨hn, by simp [hz], ?_⟩
      rw [RefsLaw.resolve, if_pos hn]
      unfold RefsLaw.follow
      simp [hz, RefsLaw.zv]
    · right
      by_cases hm : (bk.f ref).name = []
      · left
        refine ⟨hn, by simp [hz], hm, ?_⟩
        rw [RefsLaw.resolve, if_pos hn]
        unfold RefsLaw.follow
        have hi : (bk.f ref).id ≠ [] := by
          intro e
          apply hz
          rcases hv : bk.f ref with ⟨a, b⟩
          rw [hv] at hm e
          simp only at hm e
          rw [hm, e]
          rfl
        simp [hm, hi]
      · right
        have hl := RefsLaw.follow_law h hn hm
        have hnm : (bk.f ref).name.length ≤ 200 := by
          rcases h.val ref with e | ⟨_, e⟩
          · exact absurd e hz
          · simp only [RefsLaw.there, Bool.or_eq_true, Bool.and_eq_true, decide_eq_true_eq] at e
            rcases e with e | e
            · exact absurd e.2 hm
            · have := e.2
              simp only [named, Bool.and_eq_true, decide_eq_true_eq] at this
              exact this.1.1.1.1.2
        refine ⟨hn, by simp [hz], hm, hnm, ?_⟩
        split at hl
        · rename_i hc
          exact .inl ⟨hc.1, hc.2, hl.1, hl.2⟩
        · rename_i hc
          refine .inr ⟨?_, hl.1, hl.2⟩
          by_cases h0 : (RefsLaw.resolve bk (bk.f ref).name).2.2 = 0
          · exact .inr (fun h1 => hc ⟨h0, h1⟩)
          · exact .inl h0
  · left
    have hn' : named ref = false := by simpa using hn
    exact ⟨hn', by rw [RefsLaw.get, if_neg hn], by rw [RefsLaw.resolve, if_neg hn]⟩

theorem BookAt.inv {w : World} {p : Nat} {H : Nat → Prop} {bk : Book} {z : Nat} (h : BookAt w p H bk z) : RefsLaw.Inv bk := by
  obtain ⟨m, A, n, c, xs, cnt, h⟩ := h
  exact h.inv

set_option maxHeartbeats 4000000 in
set_option maxRecDepth 100000 in
theorem refsFollow_law (A : Option Addr) (n c : Nat) (l : List OpG) (ref : List UInt8) (w : World) (hA : Sl w 8 A n (opsC l)) (hO : ∀ o ∈ l, o.ok w) (hr : ref.length ≤ maxLen) (hM : MaxL w) :
    Calls Tryd.prog 4 #[.slice A n c, S ref] w fun e w' => e = .returned (.bool true) ∧ Below w.heap.size w w' := by
  have HA := Lib.hid hA
  have HO := Lib.hid hO
  have HM := Lib.hid hM
  clear hA hO hM
  go_enter Tryd.func4, Tryd.ntmps4
  go_wp2_with fail
  refine (awake11_any w HM.out).mono ?_
  rintro e w1 ⟨rfl, b1⟩
  go_wp2_with fail
  refine (made_any w1 A n c l (HA.out.below b1) (fun o ho => OpG.ok_step (HO.out o ho) b1) (HM.out.step b1)).mono ?_
  rintro e w2 ⟨p, q, bk, H, rfl, hB, b2⟩
  have q2 := Lib.hid (bstep b1 b2)
  have HM2 := Lib.hid (HM.out.step q2.out)
  have hcs := follow_cases hB.inv ref
  have C1 := get_any w2 p H bk 40 ref hB hr HM2.out
  have C2 := Lib.hid (fun W (h : Below w2.heap.size w2 W) => resolve_any W p H bk 40 ref (hB.step h) hr (HM2.out.step h))
  have C3 := Lib.hid (fun W (h : Below w2.heap.size w2 W) => named_any ref W (HM2.out.step h))
  have C4 := Lib.hid (fun W (h : Below w2.heap.size w2 W) s (hs : s.length ≤ maxLen) => resolve_any W p H bk 40 s (hB.step h) hs (HM2.out.step h))
  rcases hget : RefsLaw.get bk ref with ⟨⟨vid, vname⟩, ge⟩
  rcases hres : RefsLaw.resolve bk ref with ⟨x, y, g⟩
  rcases hnext : RefsLaw.resolve bk vname with ⟨x', y', g'⟩
  rw [hget] at hcs C1
  simp only [hres, hnext, Prod.mk.injEq] at hcs
  simp only [hres, resV] at C2
  replace C4 : Hid (∀ W, Below w2.heap.size w2 W → vname.length ≤ maxLen → Calls Tryd.prog 9 #[.pointer (some ⟨p, 0, none⟩), S vname] W fun e w' => e = .returned (.tuple #[S x', S y', I (g' : Nat)]) ∧ Below W.heap.size W w') := Lib.hid (fun W h hs => by
    have := C4.out W h vname hs
    rw [hnext] at this
    exact this)
  clear hB b1 b2 hget hres hnext HA HO HM hr
  go_wp2_with fail
  refine C1.mono ?_
  rintro e w3 ⟨rfl, b3⟩
  have V3 := Lib.hid (Blk.new w3 29 #[S vid, S vname])
  have B3 := Lib.hid (balloc b3 (.cells #[S vid, S vname] 29))
  clear b3 C1
  go_wp2_with fail
  refine (C2.out _ B3.out).mono ?_
  rintro e w4 ⟨rfl, b4⟩
  have V4 := Lib.hid (V3.out.step b4)
  have B4 := Lib.hid (bstep B3.out b4)
  clear b4 C2 V3 B3
  go_wp2_with fail
  refine (C3.out _ B4.out).mono ?_
  rintro e w5 ⟨rfl, b5⟩
  have V5 := Lib.hid (V4.out.step b5)
  have B5 := Lib.hid (bstep B4.out b5)
  have v5 := V5.out.cell
  clear b5 C3 V4 B4
  have fin : ∀ W, Below w5.heap.size w5 W → Below w.heap.size w W := fun W h => bstep (bstep q2.out B5.out) h
  have Fin := Lib.hid fin
  clear fin
  rcases hcs with ⟨h1, h2, h3⟩ | ⟨h1, h2, h3⟩ | ⟨h1, h2, h3, h4⟩ | ⟨h1, h2, h3, hl, h4⟩
  · obtain ⟨rfl, rfl, rfl⟩ := h3
    subst h2
    rw [h1]
    go_wp2
    go_ret
    exact ⟨rfl, Fin.out _ (Below.refl _ _)⟩
  · obtain ⟨rfl, rfl, rfl⟩ := h3
    subst h2
    rw [h1]
    go_wp2
    go_ret
    exact ⟨rfl, Fin.out _ (Below.refl _ _)⟩
  · obtain ⟨rfl, rfl, rfl⟩ := h4
    subst h2 h3
    rw [h1]
    go_wp2
    go_ret
    exact ⟨rfl, Fin.out _ (Below.refl _ _)⟩
  · subst h2
    rw [h1]
    have hne : (vname == ([] : List UInt8)) = false := by simpa using h3
    rcases h4 with ⟨rfl, rfl, rfl, rfl⟩ | ⟨_, rfl, rfl⟩
    · go_wp2_with (go_at_call 9; refine (C4.out _ B5.out (Nat.le_trans hl (by decide))).mono ?_; rintro e w6 ⟨rfl, b6⟩)
      go_ret
      exact ⟨rfl, Fin.out _ b6⟩
    · go_wp2_with (go_at_call 9; refine (C4.out _ B5.out (Nat.le_trans hl (by decide))).mono ?_; rintro e w6 ⟨rfl, b6⟩)
      all_goals
        go_ret
        exact ⟨rfl, Fin.out _ b6⟩
end Go.Proofs.YtmpjkjpfdkmhlaaDoor

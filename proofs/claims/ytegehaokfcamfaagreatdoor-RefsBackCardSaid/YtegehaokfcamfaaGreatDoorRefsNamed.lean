/-
  refs.Named, Value.there, Value.right. Condition: the library's variable MaxLen holds an int.
-/
import Derived.Test.YtegehaokfcamfaaGreatDoorMaxL
import Derived.Test.YtegehaokfcamfaaGreatDoorKitZ
namespace Go.Proofs.YtegehaokfcamfaaGreatDoor
open Go.RowKit
open RefsLaw (named okc Val Chg Txn)

theorem named_no {s : List UInt8} (h : s.length < 1 ∨ 200 < s.length ∨ Lib.contains s [47, 47] = true ∨ Lib.contains s [46, 46] = true ∨ Lib.trimS s [47, 46] ≠ s ∨ s.all okc = false) : named s = false := by
  unfold named
  rcases h with h | h | h | h | h | h
  · rw [decide_eq_false (by omega : ¬ 1 ≤ s.length)]; rfl
  · rw [decide_eq_false (by omega : ¬ s.length ≤ 200)]; simp
  · rw [h]; simp
  · rw [h]; simp
  · rw [decide_eq_false h]; simp
  · rw [h]; simp

theorem named_yes {s : List UInt8} (h1 : ¬ s.length < 1) (h2 : ¬ 200 < s.length) (h3 : Lib.contains s [47, 47] = false) (h4 : Lib.contains s [46, 46] = false) (h5 : Lib.trimS s [47, 46] = s) (h6 : s.all okc = true) : named s = true := by
  unfold named
  rw [decide_eq_true (by omega : 1 ≤ s.length), decide_eq_true (by omega : s.length ≤ 200), h3, h4, decide_eq_true h5, h6]
  rfl

theorem all_snoc {l : List UInt8} {k : Nat} {x : UInt8} (h : (l.take k).all okc = true) (hx : l[k]? = some x) (hk : okc x = true) : (l.take (k + 1)).all okc = true := by
  rw [List.take_add_one, List.all_append, h, hx]
  simp [hk]
theorem all_bad {l : List UInt8} {k : Nat} {x : UInt8} (hx : l[k]? = some x) (hk : okc x = false) : l.all okc = false := by
  rw [List.all_eq_false]
  exact ⟨x, List.mem_of_getElem? hx, by simp [hk]⟩
theorem ret_eq {b c : Bool} (h : c = b) : Ending.returned (.bool b) = .returned (.bool c) := by rw [h]

set_option maxHeartbeats 1000000 in
set_option maxRecDepth 100000 in
theorem named_any (s : List UInt8) (w : World) (hM : MaxL w) :
    Calls Tryz.prog 30 #[S s] w fun e w' => e = .returned (.bool (named s)) ∧ Below w.heap.size w w' := by
  by_cases h1 : s.length < 1
  · have hn := Lib.hid (named_no (.inl h1))
    go_enter Tryz.func30, Tryz.ntmps30
    go_wp2
    go_ret
    exact ⟨ret_eq hn.out, Below.refl _ _⟩
  by_cases h2 : 200 < s.length
  · have hn := Lib.hid (named_no (.inr (.inl h2)))
    go_enter Tryz.func30, Tryz.ntmps30
    go_wp2
    go_ret
    exact ⟨ret_eq hn.out, Below.refl _ _⟩
  have hs1 : s.length < 4294967281 := by omega
  have hs2 : s.length ≤ 9223372036854775807 := by omega
  rcases h3 : Lib.contains s [47, 47] with _ | _
  · rcases h4 : Lib.contains s [46, 46] with _ | _
    · by_cases h5 : Lib.trimS s [47, 46] = s
      · have H3 := Lib.hid h3
        have H4 := Lib.hid h4
        have H5 := Lib.hid h5
        have c3 := Lib.hid (contains_any s [47, 47] w hM hs1)
        have c4 := Lib.hid (contains_any s [46, 46] w hM hs1)
        have c5 := Lib.hid (trim_any s w hs2)
        rw [h3] at c3
        rw [h4] at c4
        rw [h5] at c5
        clear h3 h4 h5
        go_enter Tryz.func30, Tryz.ntmps30
        go_wp2_with (first
          | (go_at_call 56; refine c3.out.mono ?_; rintro e w' ⟨rfl, rfl⟩)
          | (go_at_call 56; refine c4.out.mono ?_; rintro e w' ⟨rfl, rfl⟩)
          | (go_at_call 57; refine c5.out.mono ?_; rintro e w1 ⟨rfl, hb⟩; obtain ⟨cp, o, hcv, hcell⟩ := conv_bytes w1 s; have B1 := Lib.hid (((hb.drew).alloc hb.size o)); have Hc := Lib.hid hcell; clear hb hcell))
        go_loop [30] (fun i => ∃ k : Nat, k ≤ s.length ∧ i = .int .i64 k ∧ Hid ((s.take k).all okc = true)) (fun i => s.length - (intOf i).toNat)
        case atStart => exact ⟨0, Nat.zero_le _, rfl, Lib.hid rfl⟩
        case round =>
          obtain ⟨k, hk, rfl, ha⟩ := hrel
          by_cases hlt : k < s.length
          · obtain ⟨x, hx⟩ : ∃ x, s[k]? = some x := ⟨s[k], List.getElem?_eq_getElem hlt⟩
            have hcx := Hc.out k x hx
            have Hx := Lib.hid hx
            clear hx hcv
            go_wp2_with (go_at_call 58; refine (indexByte_any _ _ _).mono ?_; rintro e w' ⟨rfl, rfl⟩)
            all_goals first
              | (go_round
                 case rel => exact ⟨k + 1, by omega, by go_num, Lib.hid (all_snoc ha.out Hx.out (RefsLaw.okc_iff.2 (by omega)))⟩
                 case measure => simp [intOf]; omega)
              | (go_ret
                 exact ⟨ret_eq (named_no (.inr (.inr (.inr (.inr (.inr (all_bad Hx.out (Bool.eq_false_iff.2 (fun e => RefsLaw.okc_iff.1 e (by omega)))))))))), B1.out⟩)
          · obtain rfl : k = s.length := by omega
            clear hcv
            go_wp2
            go_ret
            rw [List.take_length] at ha
            exact ⟨ret_eq (named_yes h1 h2 H3.out H4.out H5.out ha.out), B1.out⟩
      · have hn := Lib.hid (named_no (.inr (.inr (.inr (.inr (.inl h5))))))
        have hne : (!(Lib.trimS s [47, 46] == s)) = true := by simpa using h5
        have c3 := Lib.hid (contains_any s [47, 47] w hM hs1)
        have c4 := Lib.hid (contains_any s [46, 46] w hM hs1)
        have c5 := Lib.hid (trim_any s w hs2)
        rw [h3] at c3
        rw [h4] at c4
        clear h3 h4 h5
        go_enter Tryz.func30, Tryz.ntmps30
        go_wp2_with (first
          | (go_at_call 56; refine c3.out.mono ?_; rintro e w' ⟨rfl, rfl⟩)
          | (go_at_call 56; refine c4.out.mono ?_; rintro e w' ⟨rfl, rfl⟩)
          | (go_at_call 57; refine c5.out.mono ?_; rintro e w1 ⟨rfl, hb⟩))
        go_ret
        exact ⟨ret_eq hn.out, hb⟩
    · have hn := Lib.hid (named_no (.inr (.inr (.inr (.inl h4)))))
      have c3 := Lib.hid (contains_any s [47, 47] w hM hs1)
      have c4 := Lib.hid (contains_any s [46, 46] w hM hs1)
      rw [h3] at c3
      rw [h4] at c4
      clear h3 h4
      go_enter Tryz.func30, Tryz.ntmps30
      go_wp2_with (first
        | (go_at_call 56; refine c3.out.mono ?_; rintro e w' ⟨rfl, rfl⟩)
        | (go_at_call 56; refine c4.out.mono ?_; rintro e w' ⟨rfl, rfl⟩))
      go_ret
      exact ⟨ret_eq hn.out, Below.refl _ _⟩
  · have hn := Lib.hid (named_no (.inr (.inr (.inl h3))))
    have c3 := Lib.hid (contains_any s [47, 47] w hM hs1)
    rw [h3] at c3
    clear h3
    go_enter Tryz.func30, Tryz.ntmps30
    go_wp2_with (go_at_call 56; refine c3.out.mono ?_; rintro e w' ⟨rfl, rfl⟩)
    go_ret
    exact ⟨ret_eq hn.out, Below.refl _ _⟩
end Go.Proofs.YtegehaokfcamfaaGreatDoor

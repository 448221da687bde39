/-
  More small functions over bytes: equality of two slices of bytes, the references' PutText and Same; append of a text inside a statement that draws its order. Conditions: slices read as lists.
-/
import Derived.Test.YtphnfcgdpdimbaaGreatDoorTake
import Derived.Deep.RegionHeld3
namespace Go.Proofs.YtphnfcgdpdimbaaGreatDoor
open Go.RowKit

/-- append a text to a row of bytes of the call's own, inside a statement that draws its order -/
theorem step_append_text {P : Program} (w : World) {ops : Array Oper} {o : Oper} {a : Act} {K : Act → World → Prop} {Q : Exit → Act → World → Prop} {E : Prop} (hgd : o.guard = none) (sl x : Operand) (t u : TypeId)
    (ho : o.op = .call { callee := .builtin .append, args := #[sl, x], argTypes := #[t, u] })
    (w0 : World) (e : TypeId) (i : TypeInfo) (ht : P.underlying t = some (.slice e)) (hu : P.underlying u = some .string) (hi : P.info? e = some i) (hz : i.zero = some (.int .u8 0))
    (hsize : i.size = 1) (hby : i.bytes = 1)
    (Ad : Option Addr) (n cd : Nat) (xs : List Value) (hs : a.eval sl = .slice Ad n cd) (hown : Ow w0 w e 1 Ad n cd xs) (s : List UInt8) (hx : a.eval x = S s)
    (hbytes : n + s.length ≤ 140737488355328)
    (h : ∀ A' c' w', Ow w0 w' e 1 A' (n + s.length) c' (xs ++ u8s s) → w.grownBy w' (Value.slice Ad n cd).ownBlock → K (a.put o.dst (.slice A' (n + s.length) c')) w') :
    if Region.wanted o (yielded ops a.tmps) = true then Oper.wp P o a w K Q else E := by
  have hw : Region.wanted o (yielded ops a.tmps) = true := by simp [Region.wanted, hgd]
  rw [if_pos hw]
  obtain ⟨v', w', hr, h2, h3, h4⟩ := Lib.run_append_own_string (P := P) w w0.heap.size t u o.type e i ht hu hi hz hsize hby _ n xs hown.1 ⟨s.toArray⟩ (by rw [size_mk]; simp only [maxLen]; omega) (by rw [size_mk]; exact hbytes) hown.2.size
  rw [size_mk, strCells_mk] at h2
  obtain ⟨A', c', rfl⟩ := own_shape h2
  unfold Oper.wp execOp
  simp only [ho, resolve, invoke, builtin, Sem.run_bind, Sem.run_pure, Result.andThen_ok, List.map_toArray, List.map_cons, List.map_nil, hs, hx, hr]
  exact h A' c' w' ⟨h2, hown.2.grown h3 hown.2.size (fun k hk => (hown.1.lt k hk).1)⟩ h3

set_option maxHeartbeats 400000 in
theorem equalB_any (A A' : Option Addr) (n n' c c' : Nat) (l l' : List UInt8) (w : World) (hA : Sl w 1 A n (u8s l)) (hA' : Sl w 1 A' n' (u8s l'))
    (hn : n ≤ 9223372036854775807) :
    Calls Tryz.prog 257 #[.slice A n c, .slice A' n' c'] w fun e w' => e = .returned (.bool (decide (l = l'))) ∧ ∃ m, w' = w.drewN m := by
  have hl := Lib.hid (u8s_len hA)
  have hl' := Lib.hid (u8s_len hA')
  by_cases hne : n = n'
  · subst hne
    go_enter Tryz.func257, Tryz.ntmps257
    go_wp2
    go_loopw [4, 13] (fun r i wr => ∃ k m : Nat, k ≤ n ∧ i = .int .i64 k ∧ wr = w.drewN m ∧ l.take k = l'.take k ∧ r = .bool false) (fun _ i _ => n - (intOf i).toNat)
    case atStart => exact ⟨0, 0, Nat.zero_le _, rfl, rfl, rfl, rfl⟩
    case round =>
      obtain ⟨k, m, hk, rfl, rfl, ht, rfl⟩ := hrel
      have Ht := Lib.hid ht
      clear ht
      by_cases hlt : k < n
      · obtain ⟨b, off, x, rfl, hs, hc⟩ := hA.byte hlt
        obtain ⟨b', off', x', rfl, hs', hc'⟩ := hA'.byte hlt
        have Hs := Lib.hid hs
        have Hs' := Lib.hid hs'
        clear hs hs'
        by_cases hx : x = x'
        · subst hx
          go_wp2
          go_quiet (fail)
          go_wp2
          go_roundw
          case rel => exact ⟨k + 1, _, by omega, by go_num, rfl, take_step Hs.out Hs'.out rfl Ht.out, rfl⟩
          case measure => simp [intOf]; omega
        · have hne : ((x.toNat : Int) != (x'.toNat : Int)) = true := by
            rw [bne_iff_ne]; intro h; exact hx (by rw [← UInt8.toNat_inj]; omega)
          go_wp2
          go_quiet (fail)
          go_wp2
          go_ret
          exact ⟨ret_ndec (ne_of_at Hs.out Hs'.out hx), _, World.drewN_drewN _ _ _⟩
      · go_wp2
        go_ret
        exact ⟨ret_dec (take_all (by rw [hl.out]; omega) (by rw [hl'.out]; omega) Ht.out), m, rfl⟩
  · have h1 : ((n : Int) != (n' : Int)) = true := by simp; omega
    go_enter Tryz.func257, Tryz.ntmps257
    go_wp2
    go_ret
    exact ⟨ret_ndec (fun e => hne (by rw [← hl.out, ← hl'.out, e])), 0, rfl⟩

set_option maxHeartbeats 400000 in
theorem sameB_any (A A' : Option Addr) (n n' c c' : Nat) (l l' : List UInt8) (w : World) (hA : Sl w 1 A n (u8s l)) (hA' : Sl w 1 A' n' (u8s l')) :
    Calls Tryz.prog 255 #[.slice A n c, .slice A' n' c'] w fun e w' => e = .returned (.bool (decide (l = l'))) ∧ w = w' := by
  have h1 := run_conv_str (P := Tryz.prog) w 27 9 5 A n c l Tryz.underlying27 Tryz.underlying5 Tryz.underlying9 hA
  have h2 := run_conv_str (P := Tryz.prog) w 27 9 5 A' n' c' l' Tryz.underlying27 Tryz.underlying5 Tryz.underlying9 hA'
  go_enter Tryz.func255, Tryz.ntmps255
  go_wp2
  go_ret
  refine ⟨?_, rfl⟩
  by_cases h : l = l'
  · rw [decide_eq_true h]; subst h; simp
  · rw [decide_eq_false h]; simp [h]

set_option maxHeartbeats 400000 in
theorem refPutText_any (A : Option Addr) (n c : Nat) (l s : List UInt8) (w : World) (hA : Sl w 1 A n (u8s l)) (hn : n + 9 + s.length ≤ 140737488355328) :
    Calls Tryz.prog 211 #[.slice A n c, S s] w (RetB w (l ++ (putNum s.length ++ s))) := by
  have hl := Lib.hid (u8s_len hA)
  obtain ⟨i0, hi0, hz0, hz1, hz2⟩ := info_parts Tryz.infoU8
  go_enter Tryz.func211, Tryz.ntmps211
  go_wp2_with fail
  refine (refPutNum_nat A n c s.length l _ hA (by omega) (by omega)).mono ?_
  rintro e w1 ⟨A1, m, c1, rfl, ho⟩
  have hm : m + s.length ≤ 140737488355328 := by
    have h1 := ow_len ho
    rw [List.length_append, hl.out] at h1
    have h2 := putNum_len_le (n := s.length) (by unfold top62; omega)
    omega
  go_wp2_with (at_builtin; refine wpList_append_text _ rfl (.tmp 8) (.tmp 9) _ _ rfl w 5 i0 Tryz.underlying27 Tryz.underlying9 hi0 hz0 hz1 hz2 _ _ _ _ rfl ho s rfl hm ?_; intro A2 c2 w2 hown2 hg2)
  go_ret
  refine ⟨A2, m + s.length, c2, rfl, ?_⟩
  rw [← List.map_append] at hown2
  rw [← List.append_assoc]
  exact hown2
end Go.Proofs.YtphnfcgdpdimbaaGreatDoor

/-
  line.Join, the reference's Join: lines' bytes, one behind the other. Conditions: slices read as lists; the bytes are no more than memory holds.
-/
import Derived.Test.YtpnogcblafmaiaaDoorLineSplit
import Derived.Lib.Join
import Derived.Laws.IdiomStrings
import Derived.Lib.AppendStr
namespace Go.Proofs.YtpnogcblafmaiaaDoor
open Go.RowKit

theorem join_flat (ss : List (List UInt8)) : Lib.join ss [] = ss.flatten := by
  cases ss with
  | nil => rfl
  | cons x r => rw [Lib.join_cons]; simp [Lib.joinTail]

theorem joinS_any (A : Option Addr) (n c : Nat) (ss : List (List UInt8)) (w : World) (hA : Sl w 1 A n (strs ss)) (hc : n ≤ c) (hn : n ≤ 140737488355328) (hl : ss.flatten.length ≤ 140737488355328) :
    Calls Tryd.prog 42 #[.slice A n c, S []] w fun e w' => e = .returned (S ss.flatten) ∧ Below w.heap.size w w' := by
  have hlen := strs_len hA
  rcases Nat.eq_zero_or_pos n with h0 | h0
  · subst h0
    obtain rfl : ss = [] := List.eq_nil_of_length_eq_zero hlen
    exact (Tryd.strings_Join_none A c ⟨#[]⟩ w).mono fun e w' ⟨he, hw⟩ => ⟨he, by rw [hw]; exact Below.refl _ _⟩
  · obtain ⟨b, off, rfl, hb, hcell⟩ := hA.2 h0
    have hm : (ss.map (fun l => (⟨l.toArray⟩ : ByteArray))).map (·.data.toList) = ss := by rw [List.map_map]; exact List.map_id'' (fun _ => rfl) _
    have h := Tryd.strings_Join b off c (ss.map (fun l => (⟨l.toArray⟩ : ByteArray))) ⟨#[]⟩ w (by
      intro j x hx
      simp only [List.getElem?_map, Option.map_eq_some_iff] at hx
      obtain ⟨s, hs, rfl⟩ := hx
      have hj := (List.getElem?_eq_some_iff.1 hs).1
      rw [hcell j (by omega)]
      simp [hs]) hb (by simp; omega) (by simp; omega) (by rw [hm, join_flat]; exact hl)
    rw [hm, List.length_map, hlen, join_flat] at h
    exact h

/-- '[]byte(s)' -/
theorem run_to_bytes {P : Program} (w : World) (src dst e : TypeId) (s : List UInt8) (hs : P.underlying src = some .string) (hd : P.underlying dst = some (.slice e)) (he : P.underlying e = some (.int .u8)) :
    ∃ c w', (convert src dst (S s)).run P w = .ok (.slice (some ⟨w.heap.size, 0, none⟩) s.length c) w' ∧ s.length ≤ c ∧ Sl w' 1 (some ⟨w.heap.size, 0, none⟩) s.length (u8s s) ∧ Below w.heap.size w w' ∧ w.heap.size < w'.heap.size := by
  have h := run_bytes_of_string (P := P) w src dst e ⟨s.toArray⟩ hs hd he
  have hge := grownCap_ge w (⟨s.toArray⟩ : ByteArray).size 0 e
  rw [size_mk] at h hge
  refine ⟨_, _, h, hge, ⟨by simp, fun _ => ⟨_, _, rfl, by simp, fun k hk => ?_⟩⟩, (Below.refl _ _).drew.alloc (Nat.le_refl _) _, by simp⟩
  have hk' : k < s.length := by omega
  rw [show w.heap.size = w.drew.heap.size from rfl, World.cell?_alloc_mark]
  have hk2 : k < (s.toArray.map (fun b => Value.int .u8 b.toNat)).size := by simpa using hk'
  simp only [bytesRow]
  rw [Nat.zero_add, Array.getElem?_append_left hk2]
  simp [hk']

set_option maxHeartbeats 400000 in
theorem lineJoin_any (A : Option Addr) (n c : Nat) (ss : List (List UInt8)) (b : List UInt8) (w : World) (hA : Sl w 1 A n (strs ss)) (hb : ss.flatten = b) (hc : n ≤ c) (hn : n ≤ 140737488355328) (hl : b.length ≤ 140737488355328) :
    Calls Tryd.prog 25 #[.slice A n c] w fun e w' => ∃ A' c', e = .returned (.slice A' b.length c') ∧ b.length ≤ c' ∧ Sl w' 1 A' b.length (u8s b) ∧ Below w.heap.size w w' := by
  have HC := Lib.hid (joinS_any A n c ss w hA hc hn (by rw [hb]; exact hl))
  rw [hb] at HC
  clear hA hl hb
  go_enter Tryd.func25, Tryd.ntmps25
  go_wp2_with fail
  refine HC.out.mono ?_
  rintro e w1 ⟨rfl, b1⟩
  obtain ⟨c2, w2, hrun, hc2, hs2, b2, _⟩ := run_to_bytes (P := Tryd.prog) w1 9 34 5 b Tryd.underlying9 Tryd.underlying34 Tryd.underlying5
  have B := Lib.hid (bstep b1 b2)
  have HS := Lib.hid hs2
  clear hs2 b1 b2 HC
  go_wp2
  go_ret
  exact ⟨_, c2, rfl, hc2, HS.out, B.out⟩

/-- append a text to a row of bytes of the call's own -/
theorem wpList_append_txt {P : Program} (w : World) {ops : Array Oper} {rest : List Oper} {o : Oper} {a : Act} {Q : Exit → Act → World → Prop} (hgd : o.guard = none) (sl x : Operand) (t u : TypeId)
    (ho : o.op = .call { callee := .builtin .append, args := #[sl, x], argTypes := #[t, u] })
    (w0 : World) (e : TypeId) (i : TypeInfo) (ht : P.underlying t = some (.slice e)) (hu : P.underlying u = some .string) (hi : P.info? e = some i) (hz : i.zero = some (.int .u8 0))
    (hsize : i.size = 1) (hby : i.bytes = 1)
    (Ad : Option Addr) (n cd : Nat) (xs : List Value) (hs : a.eval sl = .slice Ad n cd) (hown : Ow w0 w e 1 Ad n cd xs) (s : List UInt8) (hx : a.eval x = S s)
    (hbytes : n + s.length ≤ 140737488355328)
    (h : ∀ A' c' w', Ow w0 w' e 1 A' (n + s.length) c' (xs ++ u8s s) → wpList P ops Q rest (a.put o.dst (.slice A' (n + s.length) c')) w') : wpList P ops Q (o :: rest) a w := by
  refine wpList_plain hgd fun _ hK => ?_
  obtain ⟨v', w', hr, h2, h3, h4⟩ := Lib.run_append_own_string (P := P) w w0.heap.size t u o.type e i ht hu hi hz hsize hby _ n xs hown.1 ⟨s.toArray⟩ (by rw [size_mk]; simp only [maxLen]; omega) (by rw [size_mk]; exact hbytes) hown.2.size
  rw [size_mk, show Lib.strCells ⟨s.toArray⟩ = u8s s from by simp [Lib.strCells]] at h2
  obtain ⟨A', c', rfl⟩ := own_shape h2
  unfold Oper.wp execOp
  simp only [ho, resolve, invoke, builtin, Sem.run_bind, Sem.run_pure, Result.andThen_ok, List.map_toArray, List.map_cons, List.map_nil, hs, hx, hr]
  exact hK _ _ (h A' c' w' ⟨h2, hown.2.grown h3 hown.2.size (fun k hk => (hown.1.lt k hk).1)⟩)

theorem flat_take_succ {ss : List (List UInt8)} {k : Nat} {s : List UInt8} (h : ss[k]? = some s) : (ss.take (k + 1)).flatten = (ss.take k).flatten ++ s := by
  rw [List.take_add_one, h]; simp
theorem flat_take_le (ss : List (List UInt8)) (k : Nat) : (ss.take k).flatten.length ≤ ss.flatten.length := by
  conv => rhs; rw [← List.take_append_drop k ss, List.flatten_append, List.length_append]
  omega

set_option maxHeartbeats 1000000 in
theorem refJoin_any (A : Option Addr) (n c : Nat) (ss : List (List UInt8)) (b : List UInt8) (w : World) (hA : Sl w 1 A n (strs ss)) (hb : ss.flatten = b) (hn : n ≤ 140737488355328) (hl : b.length ≤ 140737488355328) :
    Calls Tryd.prog 26 #[.slice A n c] w fun e w' => ∃ A' c', e = .returned (.slice A' b.length c') ∧ Ow w w' 5 1 A' b.length c' (u8s b) := by
  have hlen := Lib.hid (strs_len hA)
  have Hb := Lib.hid hb
  clear hb
  obtain ⟨i0, hi0, hz0, hz1, hz2⟩ := info_parts Tryd.infoU8
  go_enter Tryd.func26, Tryd.ntmps26
  go_wp2
  go_loopw [3, 4] (fun v i wr => ∃ (k m c : Nat) (A : Option Addr), k ≤ n ∧ i = .int .i64 k ∧ v = .slice A m c ∧ m ≤ b.length ∧ Ow w wr 5 1 A m c (u8s (ss.take k).flatten)) (fun _ i _ => n - (intOf i).toNat)
  case atStart => exact ⟨0, 0, 0, none, Nat.zero_le _, rfl, rfl, Nat.zero_le _, by simpa using Ow.nil_ (Below.refl _ _)⟩
  case round =>
    obtain ⟨k, m, c2, A2, hk, rfl, rfl, hm, hO⟩ := hrel
    by_cases hlt : k < n
    · have hA2 := hA.below hO.2
      obtain ⟨b1, off, s, rfl, hs, hc⟩ := hA2.str hlt
      have hm2 : m + s.length ≤ b.length := by
        have h1 := flat_take_le ss (k + 1)
        rw [flat_take_succ hs, Hb.out, List.length_append] at h1
        have h2 := hO.len
        simp only [u8s, List.length_map] at h2
        omega
      have Hs := Lib.hid hs
      clear hs hA2
      have hroom : m + s.length ≤ 140737488355328 := by omega
      go_wp2_with (at_builtin; refine wpList_append_txt _ rfl (.tmp 11) (.tmp 15) _ _ rfl w 5 i0 Tryd.underlying34 Tryd.underlying9 hi0 hz0 hz1 hz2 A2 m c2 _ rfl hO s rfl hroom ?_; intro A3 c3 w3 hO3)
      go_roundw
      case rel => exact ⟨k + 1, _, _, _, by omega, by go_num, rfl, hm2, by rw [flat_take_succ Hs.out, u8s, List.map_append]; exact hO3⟩
      case measure => simp [intOf]; omega
    · go_wp2
      go_ret
      obtain rfl : k = n := by omega
      have e : (ss.take k).flatten = b := by rw [List.take_of_length_le (by rw [hlen.out]; exact Nat.le_refl _), Hb.out]
      rw [e] at hO
      have hml : b.length = m := by have h2 := hO.len; simpa using h2
      subst hml
      exact ⟨A2, c2, rfl, hO⟩

theorem lns_cut {b : List UInt8} {f k n : Nat} {x : UInt8} (hn : b.length = n) (hf : f ≤ k) (hx : b[k]? = some x) (hno : (10 : UInt8) ∉ (b.drop f).take (k - f)) (hh : x = 10 ∨ k + 1 = n) :
    LinesLaw.lns (b.drop f) = (b.drop f).take (k + 1 - f) :: LinesLaw.lns (b.drop (k + 1)) := by
  obtain ⟨hk, hxe⟩ := List.getElem?_eq_some_iff.1 hx
  have e1 : (b.drop f).take (k + 1 - f) = (b.drop f).take (k - f) ++ [x] := by
    rw [show k + 1 - f = (k - f) + 1 by omega, List.take_add_one, List.getElem?_drop, show f + (k - f) = k by omega, hx]
    rfl
  have e2 : b.drop f = (b.drop f).take (k - f) ++ x :: b.drop (k + 1) := by
    conv => lhs; rw [← List.take_append_drop (k - f) (b.drop f), List.drop_drop, show f + (k - f) = k by omega, List.drop_eq_getElem_cons hk, hxe]
  rw [e1]
  rcases hh with rfl | h
  · conv => lhs; rw [e2]
    exact LinesLaw.lns_line _ _ hno
  · have e3 : b.drop (k + 1) = [] := List.drop_eq_nil_of_le (by omega)
    rw [e3] at e2 ⊢
    conv => lhs; rw [e2]
    rw [LinesLaw.lns_last _ _ hno]
    rfl
theorem no_more {b : List UInt8} {f k : Nat} {x : UInt8} (hf : f ≤ k) (hx : b[k]? = some x) (hno : (10 : UInt8) ∉ (b.drop f).take (k - f)) (hh : x ≠ 10) : (10 : UInt8) ∉ (b.drop f).take (k + 1 - f) := by
  rw [show k + 1 - f = (k - f) + 1 by omega, List.take_add_one, List.getElem?_drop, show f + (k - f) = k by omega, hx]
  intro h
  rcases List.mem_append.1 h with h | h
  · exact hno h
  · simp at h; exact hh h.symm

/-- what the reference's Split has at k -/
def SplitAt (b : List UInt8) (n k f : Nat) (L : List (List UInt8)) : Prop := f ≤ k ∧ L.length ≤ f ∧ LinesLaw.lns b = L ++ LinesLaw.lns (b.drop f) ∧ (10 : UInt8) ∉ (b.drop f).take (k - f) ∧ (k = n → f = n)
theorem SplitAt.cut {b : List UInt8} {n k f : Nat} {L : List (List UInt8)} (h : SplitAt b n k f L) {x : UInt8} (hn : b.length = n) (hx : b[k]? = some x) (hh : x = 10 ∨ k + 1 = n) : SplitAt b n (k + 1) (k + 1) (L ++ [(b.drop f).take (k + 1 - f)]) := by
  obtain ⟨h1, h2, h3, h4, h5⟩ := h
  refine ⟨Nat.le_refl _, by simp; omega, ?_, by simp, fun h => h⟩
  rw [h3, lns_cut hn h1 hx h4 hh]
  simp
theorem SplitAt.on {b : List UInt8} {n k f : Nat} {L : List (List UInt8)} (h : SplitAt b n k f L) {x : UInt8} (hx : b[k]? = some x) (h1 : x ≠ 10) (h2 : k + 1 ≠ n) : SplitAt b n (k + 1) f L :=
  ⟨by have := h.1; omega, h.2.1, h.2.2.1, no_more h.1 hx h.2.2.2.1 h1, fun e => absurd e h2⟩
theorem SplitAt.all {b : List UInt8} {n f : Nat} {L : List (List UInt8)} (h : SplitAt b n n f L) (hn : b.length = n) : L = LinesLaw.lns b := by
  rw [h.2.2.1, h.2.2.2.2 rfl, List.drop_eq_nil_of_le (by omega)]
  simp [LinesLaw.lns]

set_option maxHeartbeats 2000000 in
theorem refSplit_any (A : Option Addr) (n c : Nat) (b : List UInt8) (w : World) (hA : Sl w 1 A n (u8s b)) (hc : n ≤ c) (hn : n ≤ 4294967296) :
    Calls Tryd.prog 24 #[.slice A n c] w fun e w' => ∃ A' m' c', e = .returned (.slice A' m' c') ∧ m' ≤ n ∧ Ow w w' 9 1 A' m' c' (strs (LinesLaw.lns b)) := by
  have hlb : b.length = n := by simpa using hA.len
  have Hlb := Lib.hid hlb
  clear hlb
  obtain ⟨i0, hi0, hz0, hz1, hz2⟩ := info_parts Tryd.infoStr
  go_enter Tryd.func24, Tryd.ntmps24
  go_wp2
  go_loopw [3, 4, 5] (fun v fr i wr => ∃ (k f m c : Nat) (A : Option Addr) (L : List (List UInt8)), k ≤ n ∧ i = .int .i64 k ∧ fr = .int .i64 f ∧ v = .slice A m c ∧ Hid (SplitAt b n k f L) ∧ Ow w wr 9 1 A m c (strs L)) (fun _ _ i _ => n - (intOf i).toNat)
  case atStart => exact ⟨0, 0, 0, 0, none, [], Nat.zero_le _, rfl, rfl, rfl, Lib.hid ⟨Nat.le_refl _, Nat.le_refl _, by simp, by simp, fun h => h⟩, Ow.nil_ (Below.refl _ _)⟩
  case round =>
    obtain ⟨k, f, m, c2, A2, L, hk, rfl, rfl, rfl, HS, hO⟩ := hrel
    have hfk : f ≤ k := HS.out.1
    have hmf : m ≤ f := by have h1 := HS.out.2.1; have h2 := hO.len; simp at h2; omega
    by_cases hlt : k < n
    · have hA2 := hA.below hO.2
      obtain ⟨b1, off, x, hAe, hx, hcell⟩ := hA2.byte hlt
      have Hx := Lib.hid hx
      clear hx
      by_cases hh : x = 10 ∨ k + 1 = n
      · have kcut := run_cut_lh (P := Tryd.prog) wr Tryd.underlying34 Tryd.sizeU8 A n c .i64 .i64 f (k + 1) (by omega) (by omega)
        have hmid := Sl.mid_ (f := U8) (l := b) hA2 (j := f) (k := k + 1) (c := c) (by omega) (by omega) hc
        have kconv := run_conv_str (P := Tryd.prog) wr 34 9 5 _ (k + 1 - f) (c - f) _ Tryd.underlying34 Tryd.underlying5 Tryd.underlying9 hmid
        obtain ⟨piece, hp⟩ : ∃ piece, (b.drop f).take (k + 1 - f) = piece := ⟨_, rfl⟩
        rw [hp] at kconv
        have Hp := Lib.hid hp
        clear hp hmid hA2
        have ec : ((k + 1 : Nat) : Int) = (k : Int) + 1 := by omega
        rw [ec] at kcut
        subst hAe
        have ways : ((x.toNat : Int) == 10) = true ∨ ((x.toNat : Int) == 10) = false ∧ ((k : Int) == (n : Int) - 1) = true := by
          by_cases h10 : x = 10
          · left; subst h10; rfl
          · right
            refine ⟨?_, ?_⟩
            · simp only [beq_eq_false_iff_ne, ne_eq]; intro h; exact h10 (UInt8.toNat_inj.1 (by show x.toNat = 10; omega))
            · have : k + 1 = n := by rcases hh with h | h; exact absurd h h10; exact h
              simp; omega
        have HH := Lib.hid hh
        clear hh ec
        have hm63 : m + 1 ≤ maxLen := by simp only [maxLen]; omega
        have hm16 : (m + 1) * 16 ≤ 140737488355328 := by omega
        have hOa := hO.alloc (.cells #[S piece] 9)
        have hone := sl_one wr 9 (S piece)
        rcases ways with h1 | ⟨h1, h2⟩
        all_goals
          go_wp2_with (at_builtin; refine wpList_append_sl _ rfl (.tmp 24) (.tmp 31) _ rfl w 9 i0 _ 1 16 Tryd.underlying22 hi0 hz0 hz1 hz2 rfl Nat.one_pos A2 m c2 _ rfl hOa (some ⟨wr.heap.size, 0, none⟩) 1 1 [S piece] rfl hone (one_one rfl) hm63 hm16 ?_; intro A3 c3 w3 hO3 hg3 ha3)
          go_roundw
          case rel => exact ⟨k + 1, k + 1, _, _, _, L ++ [piece], by omega, by go_num, by go_num, rfl, Lib.hid (Hp.out ▸ HS.out.cut Hlb.out Hx.out HH.out), by rw [strs, List.map_append]; exact hO3⟩
          case measure => simp [intOf]; omega
      · have h1 : ((x.toNat : Int) == 10) = false := by
          simp only [beq_eq_false_iff_ne, ne_eq]; intro h; exact hh (.inl (UInt8.toNat_inj.1 (by show x.toNat = 10; omega)))
        have h2 : ((k : Int) == (n : Int) - 1) = false := by
          simp only [beq_eq_false_iff_ne, ne_eq]; intro h; exact hh (.inr (by omega))
        have HH := Lib.hid hh
        clear hh hA2
        subst hAe
        go_wp2
        go_roundw
        case rel => exact ⟨k + 1, f, _, _, _, L, by omega, by go_num, rfl, rfl, Lib.hid (HS.out.on Hx.out (fun h => HH.out (.inl h)) (fun h => HH.out (.inr h))), hO⟩
        case measure => simp [intOf]; omega
    · obtain rfl : k = n := by omega
      have e := HS.out.all Hlb.out
      subst e
      go_wp2
      go_ret
      exact ⟨A2, m, c2, rfl, by omega, hO⟩
end Go.Proofs.YtpnogcblafmaiaaDoor

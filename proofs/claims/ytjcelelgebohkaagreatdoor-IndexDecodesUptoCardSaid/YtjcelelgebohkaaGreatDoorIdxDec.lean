/-
  index.Decode: which index bytes are. Conditions: no more than 1500000 bytes; MaxLen holds an int.
-/
import Derived.Test.YtjcelelgebohkaaGreatDoorIdxRd
import Derived.Test.YtjcelelgebohkaaGreatDoorIdxBeside
namespace Go.Proofs.YtjcelelgebohkaaGreatDoor
open Go.RowKit
open IdxLaw (Ent Key zE sortE Inv)

theorem text_len2 {r : Rd} (h : r.text.1 ≠ []) : r.text.2.b.length + 2 ≤ r.b.length := by
  unfold Rd.text at h ⊢
  cases ht : takeText r.b 1000 with
  | none => rw [ht] at h; exact absurd rfl h
  | some x =>
    obtain ⟨s, q⟩ := x
    rw [ht] at h
    simp only at h ⊢
    have h1 := congrArg List.length (takeText_inv ht).1
    simp only [List.length_append] at h1
    have h2 := putNum_len_pos s.length
    have h3 : 0 < s.length := List.length_pos_iff.2 h
    omega
theorem text_len (r : Rd) : r.text.2.b.length ≤ r.b.length := by
  unfold Rd.text
  cases ht : takeText r.b 1000 with
  | none => simp
  | some x => exact takeText_len ht
theorem text_short (r : Rd) : r.text.1.length ≤ 1000 := by
  unfold Rd.text
  cases ht : takeText r.b 1000 with
  | none => simp
  | some x => exact (takeText_inv ht).2
theorem num_len (r : Rd) : r.num.2.b.length ≤ r.b.length := by
  unfold Rd.num
  cases ht : takeNum r.b with
  | none => simp
  | some x => exact Nat.le_of_lt (takeNum_len ht)
theorem takeGo_lt : ∀ (b : List UInt8) (k acc v : Nat) (r : List UInt8), takeGo k acc b = some (v, r) → v < top62
  | [], _, _, _, _, h => by simp [takeGo] at h
  | c :: b, k, acc, v, r, h => by
    rw [takeGo] at h
    split at h
    · cases h
    · split at h
      · cases h
      · split at h
        · split at h
          · rename_i hlt
            simp only [Option.some.injEq, Prod.mk.injEq] at h
            rw [← h.1]; exact hlt
          · cases h
        · exact takeGo_lt b _ _ v r h
theorem num_lt (r : Rd) : r.num.1 < top62 := by
  unfold Rd.num
  cases ht : takeNum r.b with
  | none => show 0 < top62; unfold top62; omega
  | some x => exact takeGo_lt _ _ _ _ _ ht
theorem named_ne {p : List UInt8} (h : PathLaw.named p = true) : p ≠ [] := by
  rintro rfl
  revert h
  decide +kernel
theorem ent_len {r : Rd} (h : IdxLaw.right r.ent.1 = true) : r.ent.2.b.length + 2 ≤ r.b.length := by
  have h1 : r.text.1 ≠ [] := named_ne (right_id h).1
  have h2 := text_len2 h1
  have h3 := num_len r.text.2
  have h4 := text_len r.text.2.num.2
  have h5 := num_len r.text.2.num.2.text.2
  have h6 := num_len r.text.2.num.2.text.2.num.2
  show r.text.2.num.2.text.2.num.2.num.2.b.length + 2 ≤ _
  omega
theorem goD_bad {k : Nat} {l : List Ent} {r : Rd} (h : r.bad = true) : goD k l r = some (l, r) := by
  cases k with
  | zero => rfl
  | succ k => rw [goD, if_pos h]
theorem goD_no {k : Nat} {l : List Ent} {r : Rd} (h : r.bad = false) (hc : ¬ (IdxLaw.right r.ent.1 = true ∧ l.all (fun a => bes1 a r.ent.1) = true)) : goD (k + 1) l r = none := by rw [goD, if_neg (by rw [h]; simp), if_neg hc]
theorem goD_yes {k : Nat} {l : List Ent} {r : Rd} (h : r.bad = false) (hc : IdxLaw.right r.ent.1 = true ∧ l.all (fun a => bes1 a r.ent.1) = true) : goD (k + 1) l r = goD k (layE l r.ent.1) r.ent.2 := by rw [goD, if_neg (by rw [h]; simp), if_pos hc]
/-- what Decode returns -/
def RetDec (w : World) (b : List UInt8) (e : Ending) (w' : World) : Prop :=
  (decP b = none ∧ e = .returned (.tuple #[.pointer none, I 2]) ∧ Below w.heap.size w w') ∨
  (∃ (p m n : Nat) (l : List Ent), decP b = some l ∧ e = .returned (.tuple #[.pointer (some ⟨p, 0, none⟩), I 0]) ∧ IdxAt w' p m l n ∧ n ≤ 800000 ∧ w.heap.size ≤ p ∧ w.heap.size ≤ m ∧ Below w.heap.size w w')
set_option maxHeartbeats 8000000 in
set_option maxRecDepth 100000 in
theorem decode_any (A : Option Addr) (n c : Nat) (b : List UInt8) (w : World) (hA : Sl w 1 A n (u8s b)) (hc : n ≤ c) (hn : n ≤ 1500000) (hM : MaxL w) :
    Calls Tryz.prog 18 #[.slice A n c] w (RetDec w b) := by
  have hl := u8s_len hA
  have HM := Lib.hid hM
  have HA := Lib.hid hA
  obtain ⟨R, hR⟩ : ∃ R, R = w.heap.size := ⟨_, rfl⟩
  have b0 := balloc (Below.refl _ w) (.cells #[.slice A n c, I 0] 97)
  have hrd : RdAt (w.alloc (.cells #[.slice A n c, I 0] 97)) R R ⟨b, false⟩ := by
    rw [hR]
    refine ⟨A, n, c, Blk.new w _ _, hA.alloc _, hc, by omega, fun h0 a ha => .inl ?_, Nat.le_refl _⟩
    obtain ⟨g, off, e, hg, _⟩ := hA.2 h0
    rw [e] at ha; cases ha
    exact hg
  have HRD := Lib.hid hrd
  have B0 := Lib.hid b0
  have CN := Lib.hid new_any
  clear hA hM hrd b0
  go_enter Tryz.func18, Tryz.ntmps18
  go_wp2_with fail
  rw [← hR]
  refine (CN.out _).mono ?_
  rintro e w1 ⟨p, m, rfl, hI1, hp1, hm1, b1⟩
  have HR := Lib.hid hR
  rw [World.size_alloc, ← hR] at hp1 hm1
  have I1 := Lib.hid hI1
  have RD1 := Lib.hid (HRD.out.step b1)
  have B1 := Lib.hid (bstep B0.out b1)
  clear hI1 b1 hR
  go_wp2_with fail
  refine (rdNum_any R R ⟨b, false⟩ w1 RD1.out).mono ?_
  rintro e w2 ⟨rfl, hrd2, hg2⟩
  obtain ⟨N, hN⟩ : ∃ N, N = (Rd.num ⟨b, false⟩).1 := ⟨_, rfl⟩
  obtain ⟨r0, hr0⟩ : ∃ r, r = (Rd.num ⟨b, false⟩).2 := ⟨_, rfl⟩
  have HDEC : Hid (decP b = match goD N [] r0 with | none => none | some (l, r) => if r.bad = true ∨ encI (sortE l) ≠ b then none else some l) := Lib.hid (by rw [hN, hr0]; rfl)
  have hlen := num_len ⟨b, false⟩
  rw [← hr0] at hlen hrd2
  rw [← hN]
  have hNl : N < top62 := by rw [hN]; exact num_lt _
  unfold top62 at hNl
  have hRw : w.heap.size ≤ R := by have := HR.out; omega
  have B2 := Lib.hid (B1.out.grown hg2 B1.out.size (fun j e => by cases e; exact hRw))
  have I2 := Lib.hid (I1.out.fr (E := fun j => j = R) (Fr.of_grown hg2 (fun j e => by cases e; rfl)) (by omega) (by omega))
  have RD2 := Lib.hid hrd2
  have HL2 := Lib.hid hlen
  clear hN hr0 hlen hrd2 hg2
  go_wp2
  go_loopw [6, 7] (fun s6 s7 wr => ∃ (k cnt : Nat) (l : List Ent) (r : Rd), s6 = .int .i64 k ∧ Hid (k ≤ N) ∧ Hid (goD k l r = goD N [] r0) ∧ Hid (RdAt wr R R r) ∧ Hid (IdxAt wr p m l cnt) ∧ Hid (2 * cnt + r.b.length ≤ n) ∧ Hid (∀ e ∈ l, IdxLaw.right e = true) ∧ Hid (Below w.heap.size w wr)) (fun s6 _ _ => (intOf s6).toNat)
  case atStart => exact ⟨N, 0, [], r0, rfl, Lib.hid (Nat.le_refl _), Lib.hid rfl, RD2, I2, Lib.hid (by have h1 : r0.b.length ≤ b.length := HL2.out; omega), Lib.hid (by simp), B2⟩
  case round =>
    obtain ⟨k, cnt, l, r, rfl, hk, hgo, hrd, hI, hcn, hri, hb⟩ := hrel
    have hkN := hk.out
    obtain ⟨rb, bad⟩ := r
    obtain ⟨Ar, nr, cr, hBr, _⟩ := hrd.out
    have rc := hBr.cell
    clear hBr
    cases bad with
    | true =>
      have hD : Hid (decP b = none) := Lib.hid (by rw [HDEC.out, ← hgo.out, goD_bad rfl]; simp)
      rcases k with _ | k
      all_goals
        go_wp2
        refine bodyPost_ret (v := .tuple #[.pointer none, I 2]) (by simp [results, Tryz.results18, go_sem]) rfl ?_
        exact .inl ⟨hD.out, rfl, hb.out⟩
    | false =>
      rcases k with _ | k
      · have hD : Hid (decP b = if encI (sortE l) ≠ b then none else some l) := Lib.hid (by rw [HDEC.out, ← hgo.out]; simp [goD])
        have hcn2 := hcn.out
        have C9 := Lib.hid (encode_any wr p m cnt l hI.out (by omega) hri.out)
        rcases hq : decide (encI (sortE l) = b) with _ | _
        all_goals
          have Hq := Lib.hid hq
          clear hq
          go_wp2_with (first
            | (go_at_call 21; refine C9.out.mono ?_; rintro e w9 ⟨A9, m9, c9, rfl, hS9, _, b9⟩; have S9 := Lib.hid hS9; have B9 := Lib.hid (bstep hb.out b9); have J9 := Lib.hid (hI.out.step b9); clear hS9 b9)
            | (go_at_call 55; refine (equalB_any A9 A m9 n c9 c _ b w9 S9.out (HA.out.below B9.out) (by have := u8s_len S9.out; have h8 := encK_len (fun e he => hri.out e ((IdxLaw.sortE_perm l).mem_iff.1 he)) (by rw [(IdxLaw.sortE_perm l).length_eq]; have := hI.out.map.le; simp [kd] at this; omega) (sortE l).length (Nat.le_refl _); unfold encI at this; have h7 := hI.out.map.le; simp [kd] at h7; have h6 := (IdxLaw.sortE_perm l).length_eq; omega)).mono ?_; rintro e wa ⟨he, mm, rfl⟩; rw [Hq.out] at he; subst he))
        · refine bodyPost_ret (v := .tuple #[.pointer none, I 2]) (by simp [results, Tryz.results18, go_sem]) rfl ?_
          exact .inl ⟨by rw [hD.out, if_pos (of_decide_eq_false Hq.out)], rfl, below_drewN B9.out _⟩
        · refine bodyPost_ret (v := .tuple #[.pointer (some ⟨p, 0, none⟩), I 0]) (by simp [results, Tryz.results18, go_sem]) rfl ?_
          exact .inr ⟨p, m, cnt, l, by rw [hD.out, if_neg (fun h => h (of_decide_eq_true Hq.out))], rfl, J9.out.step (below_drewN (Below.refl _ _) _), by omega, by omega, by omega, below_drewN B9.out _⟩
      · obtain ⟨v1, r1, h1⟩ : ∃ v r, Rd.text ⟨rb, false⟩ = (v, r) := ⟨_, _, rfl⟩
        go_wp2_with fail
        refine (rdText_at hrd.out h1).mono ?_
        rintro e wa1 ⟨rfl, hrd1, hg1⟩
        clear rc
        have BB1 := Lib.hid (hb.out.grown hg1 hb.out.size (fun j e => by cases e; exact hRw))
        have II1 := Lib.hid (hI.out.fr (E := fun j => j = R) (Fr.of_grown hg1 (fun j e => by cases e; rfl)) (by omega) (by omega))
        have RR1 := Lib.hid hrd1
        clear hg1 hrd1
        obtain ⟨v2, r2, h2⟩ : ∃ v r, Rd.num r1 = (v, r) := ⟨_, _, rfl⟩
        go_wp2_with fail
        refine (rdNum_at RR1.out h2).mono ?_
        rintro e wa2 ⟨rfl, hrd2, hg2⟩
        have BB2 := Lib.hid (BB1.out.grown hg2 BB1.out.size (fun j e => by cases e; exact hRw))
        have II2 := Lib.hid (II1.out.fr (E := fun j => j = R) (Fr.of_grown hg2 (fun j e => by cases e; rfl)) (by omega) (by omega))
        have RR2 := Lib.hid hrd2
        clear hg2 hrd2
        obtain ⟨v3, r3, h3⟩ : ∃ v r, Rd.text r2 = (v, r) := ⟨_, _, rfl⟩
        go_wp2_with fail
        refine (rdText_at RR2.out h3).mono ?_
        rintro e wa3 ⟨rfl, hrd3, hg3⟩
        have BB3 := Lib.hid (BB2.out.grown hg3 BB2.out.size (fun j e => by cases e; exact hRw))
        have II3 := Lib.hid (II2.out.fr (E := fun j => j = R) (Fr.of_grown hg3 (fun j e => by cases e; rfl)) (by omega) (by omega))
        have RR3 := Lib.hid hrd3
        clear hg3 hrd3
        obtain ⟨v4, r4, h4⟩ : ∃ v r, Rd.num r3 = (v, r) := ⟨_, _, rfl⟩
        go_wp2_with fail
        refine (rdNum_at RR3.out h4).mono ?_
        rintro e wa4 ⟨rfl, hrd4, hg4⟩
        have BB4 := Lib.hid (BB3.out.grown hg4 BB3.out.size (fun j e => by cases e; exact hRw))
        have II4 := Lib.hid (II3.out.fr (E := fun j => j = R) (Fr.of_grown hg4 (fun j e => by cases e; rfl)) (by omega) (by omega))
        have RR4 := Lib.hid hrd4
        clear hg4 hrd4
        obtain ⟨v5, r5, h5⟩ : ∃ v r, Rd.num r4 = (v, r) := ⟨_, _, rfl⟩
        go_wp2_with fail
        refine (rdNum_at RR4.out h5).mono ?_
        rintro e wa5 ⟨rfl, hrd5, hg5⟩
        have BB5 := Lib.hid (BB4.out.grown hg5 BB4.out.size (fun j e => by cases e; exact hRw))
        have II5 := Lib.hid (II4.out.fr (E := fun j => j = R) (Fr.of_grown hg5 (fun j e => by cases e; rfl)) (by omega) (by omega))
        have RR5 := Lib.hid hrd5
        clear hg5 hrd5
        have hE : Rd.ent ⟨rb, false⟩ = (⟨v1, (v2 : Int), v3, (v4 : Int), (v5 : Int)⟩, r5) := by
          unfold Rd.ent
          simp only [h1, h2, h3, h4, h5]
        have hps : v1.length ≤ 1000 := by have := text_short ⟨rb, false⟩; rw [h1] at this; exact this
        have HEl := Lib.hid (ent_len (r := ⟨rb, false⟩))
        have HYes := Lib.hid (goD_yes (k := k) (l := l) (r := ⟨rb, false⟩) rfl)
        have HNo := Lib.hid (goD_no (k := k) (l := l) (r := ⟨rb, false⟩) rfl)
        rw [hE] at HEl HYes HNo
        obtain ⟨x, hxx⟩ : ∃ x : Ent, x = ⟨v1, (v2 : Int), v3, (v4 : Int), (v5 : Int)⟩ := ⟨_, rfl⟩
        have hxp : x.path.length ≤ 2147483648 := by rw [hxx]; show v1.length ≤ _; omega
        have HXX := Lib.hid hxx
        simp only at HEl HYes HNo
        rw [← hxx] at HEl HYes HNo
        clear h1 h2 h3 h4 h5 hE hps hxx
        have hBx := Blk.new wa5 36 #[S v1, I v2, S v3, I v4, I v5]
        have bx := balloc (Below.refl _ wa5) (.cells #[S v1, I v2, S v3, I v4, I v5] 36)
        have BX := Lib.hid (bstep BB5.out bx)
        have IX := Lib.hid (II5.out.step bx)
        have RX := Lib.hid (RR5.out.step bx)
        have rx := hBx.cell
        have HBx := Lib.hid hBx
        have C6 := Lib.hid (fun W h => right_any x W hxp h)
        have C7 := Lib.hid (fun W h => beside_any W p m cnt l x h hxp (fun e he => Nat.le_trans (right_path (hri.out e he)) (by decide)))
        have hcn2 := hcn.out
        clear hBx bx
        rcases hr : IdxLaw.right x with _ | _
        · rw [hr] at C6
          have hD : Hid (decP b = none) := Lib.hid (by rw [HDEC.out, ← hgo.out, HNo.out (fun h => by rw [hr] at h; cases h.1)])
          clear hr
          rw [HXX.out] at C6
          go_wp2_with (go_at_call 38; refine (C6.out _ (HM.out.step BX.out)).mono ?_; rintro e w8 ⟨rfl, b8⟩; have B8 := Lib.hid (bstep BX.out b8); clear b8)
          refine bodyPost_ret (v := .tuple #[.pointer none, I 2]) (by simp [results, Tryz.results18, go_sem]) rfl ?_
          exact .inl ⟨hD.out, rfl, B8.out⟩
        · rw [hr] at C6
          have hgx : goodK x.key := right_good hr
          rcases ha : l.all (fun k => bes1 k x) with _ | _
          · rw [ha] at C7
            have hD : Hid (decP b = none) := Lib.hid (by rw [HDEC.out, ← hgo.out, HNo.out (fun h => by rw [ha] at h; cases h.2)])
            clear hr ha
            rw [HXX.out] at C6 C7
            go_wp2_with (first
              | (go_at_call 38; refine (C6.out _ (HM.out.step BX.out)).mono ?_; rintro e w8 ⟨rfl, b8⟩; have B8 := Lib.hid (bstep BX.out b8); have I8 := Lib.hid (IX.out.step b8); have rx8 := (HBx.out.step b8).cell; clear b8 rx)
              | (go_at_call 54; refine (C7.out _ I8.out).mono ?_; rintro e w9 ⟨rfl, b9⟩; have B9 := Lib.hid (bstep B8.out b9); clear b9))
            refine bodyPost_ret (v := .tuple #[.pointer none, I 2]) (by simp [results, Tryz.results18, go_sem]) rfl ?_
            exact .inl ⟨hD.out, rfl, B9.out⟩
          · rw [ha] at C7
            have hel := HEl.out hr
            have Hel := Lib.hid hel
            have Hgo := Lib.hid ((HYes.out ⟨hr, ha⟩).symm.trans hgo.out)
            have Hri : Hid (∀ e ∈ layE l x, IdxLaw.right e = true) := Lib.hid (fun e he => by
              rcases List.mem_cons.1 he with rfl | he
              · exact hr
              · exact hri.out e (List.mem_filter.1 he).1)
            have C8 := Lib.hid (fun W h => lay_any W p m cnt l x h (by omega) hgx)
            clear hr ha hel
            rw [HXX.out] at C6 C7 C8
            go_wp2_with (first
              | (go_at_call 38; refine (C6.out _ (HM.out.step BX.out)).mono ?_; rintro e w8 ⟨rfl, b8⟩; have B8 := Lib.hid (bstep BX.out b8); have I8 := Lib.hid (IX.out.step b8); have R8 := Lib.hid (RX.out.step b8); have HB8 := HBx.out.step b8; have rx8 := HB8.cell; have HBx8 := Lib.hid HB8; clear b8 rx HB8)
              | (go_at_call 54; refine (C7.out _ I8.out).mono ?_; rintro e w9 ⟨rfl, b9⟩; have B9 := Lib.hid (bstep B8.out b9); have I9 := Lib.hid (I8.out.step b9); have R9 := Lib.hid (R8.out.step b9); have rx9 := (HBx8.out.step b9).cell; clear b9 rx8)
              | (go_at_call 40; refine (C8.out _ I9.out).mono ?_; rintro e wb ⟨rfl, hIb, hFb⟩; have Ib := Lib.hid hIb; have Rb := Lib.hid (R9.out.fr hFb I9.out.map.is (by omega)); have Bb := Lib.hid (B9.out.trans (hFb.below B9.out.size (fun j e => by rw [e]; omega))); clear hIb hFb rx9))
            go_roundw
            case rel => exact ⟨k, cnt + 1, layE l x, r5, by go_num, Lib.hid (by omega), Hgo, Rb, Lib.hid (by rw [HXX.out]; exact Ib.out), Lib.hid (by have h1 : r5.b.length + 2 ≤ rb.length := Hel.out; have h2 : 2 * cnt + rb.length ≤ n := hcn.out; omega), Hri, Bb⟩
            case measure => simp [intOf]
end Go.Proofs.YtjcelelgebohkaaGreatDoor

/-
  dolmenlaw20.WorkSame returns true. Conditions: the world can be read and is of a bounded bulk, the path and the bytes too; MaxLen holds an int.
-/
import Derived.Test.YtphnfcgdpdimbaaGreatDoorMade
import Derived.Test.YtphnfcgdpdimbaaGreatDoorKitS
import Derived.Test.YtphnfcgdpdimbaaGreatDoorKitA
import Derived.Test.YtphnfcgdpdimbaaGreatDoorKitW
import Derived.Test.YtphnfcgdpdimbaaGreatDoorRows
import Derived.Deep.CutBlock
namespace Go.Proofs.YtphnfcgdpdimbaaGreatDoor
open Go.ChangeShapes Go.WideShapes Go.RowKit
open IdxLaw (Ent)

section
variable {H : Type}
theorem bulk_one (d : DataW H) : 1 ≤ Rows.uptoBulk d := by
  cases d with
  | lit l => cases l <;> simp [Rows.uptoBulk]
  | nil => simp [Rows.uptoBulk]
  | ptr d => simp [Rows.uptoBulk]
  | slice elems spare => simp [Rows.uptoBulk]
  | agg parts => simp [Rows.uptoBulk]
  | iface t d => simp [Rows.uptoBulk]
  | map entries => simp [Rows.uptoBulk]
  | held h => simp [Rows.uptoBulk]
theorem bulk_length (l : List (DataW H)) : l.length ≤ Rows.uptoBulkAll l := by
  induction l with
  | nil => simp [Rows.uptoBulkAll]
  | cons x r ih => have := bulk_one x; simp only [Rows.uptoBulkAll, List.length_cons]; omega
end
/-- bytes that came in, of a bounded bulk -/
theorem open_bytesB {H : Type} {enc : TypeId × Value → H} {w : World} {base : Nat} {held : Bool} {fuel : Nat} {v : Value} {x : DataW H × List MemPlace} (h : DataW.trod enc Tryz.prog w base (fun _ => true) held fuel 27 [v] = some x) (hw : Rows.uptoBulk x.1 ≤ 1048576) :
    ∃ (A : Option Addr) (n c : Nat) (l : List UInt8), v = .slice A n c ∧ Sl w 1 A n (u8s l) ∧ n ≤ c ∧ n ≤ 1500000 := by
  obtain ⟨A, n, c, l, rfl, hnc, _, hS, hx⟩ := bytes_sl Tryz.underlying27 Tryz.underlying5 (by kernel_rfl) h
  refine ⟨A, n, c, l, rfl, hS, hnc, ?_⟩
  rcases hx with ⟨_, h0⟩ | ⟨es, sp, hx, hl⟩
  · omega
  · rw [hx] at hw
    have h1 := bulk_length es
    have h2 := bulk_length sp
    simp only [Rows.uptoBulk] at hw
    omega
theorem ow_frz {w0 w : World} {e : TypeId} {sz n c g : Nat} {xs : List Value} (h : Ow w0 w e sz (some ⟨g, 0, none⟩) n c xs) (i : Nat) : w.frozen? ⟨g, i, none⟩ = false := by
  rcases h.1.2 with ⟨hv, _⟩ | ⟨g', cap, cur, hv, _, hh, _⟩
  · injection hv with h1
    cases h1
  · injection hv with h1
    cases h1
    simp [World.frozen?, hh]
set_option maxHeartbeats 8000000 in
set_option maxRecDepth 100000 in
theorem workSame_law (x : Wd) (s : List UInt8) (A0 : Option Addr) (k0 c0 : Nat) (bs : List UInt8) (w : World) (hx : x.ok w) (hs : s.length ≤ 1048576) (hA : Sl w 1 A0 k0 (u8s bs)) (_hc : k0 ≤ c0) (hn : k0 ≤ 1500000) (hM : MaxL w) :
    Calls Tryz.prog 3 #[.agg #[I x.room, .slice x.A x.n x.c, .slice x.B x.m x.d, .slice x.C x.j x.e, .slice x.D x.k x.f], S s, .slice A0 k0 c0] w fun e w' => e = .returned (.bool true) ∧ Below w.heap.size w w' := by
  obtain ⟨i0, hi0, hz0, hz1, hz2⟩ := info_parts Tryz.infoU8
  obtain rfl : bs.length = k0 := u8s_len hA
  have hX := Lib.hid hx
  have HM := Lib.hid hM
  have HA := Lib.hid hA
  have Hs := Lib.hid hs
  have Hn := Lib.hid hn
  obtain ⟨g1, hg1⟩ : ∃ g1, g1 = w.heap.size := ⟨_, rfl⟩
  obtain ⟨w1, hw1⟩ : ∃ w1, w1 = w.alloc (.cells #[I x.room, .slice x.A x.n x.c, .slice x.B x.m x.d, .slice x.C x.j x.e, .slice x.D x.k x.f] 26) := ⟨_, rfl⟩
  have hG1 : Blk w1 g1 26 #[I x.room, .slice x.A x.n x.c, .slice x.B x.m x.d, .slice x.C x.j x.e, .slice x.D x.k x.f] := by rw [hw1, hg1]; exact Blk.new w _ _
  have b1 : Below w.heap.size w w1 := by rw [hw1]; exact balloc (Below.refl _ w) _
  have HG1 := Lib.hid hG1
  have B1 := Lib.hid b1
  have CW := Lib.hid (awake20_any w1 (hM.step b1))
  have rg := hG1.cell
  clear hx hM hG1 b1 hA hs hn _hc
  go_enter Tryz.func3, Tryz.ntmps3
  go_wp2_with fail
  simp only [← hg1]
  rw [← hw1]
  clear hg1 hw1
  refine CW.out.mono ?_
  rintro e w2 ⟨rfl, b2⟩
  have B2 := Lib.hid (bstep B1.out b2)
  have HG2 := Lib.hid (HG1.out.step b2)
  have rg2 := HG2.out.cell
  have CM := Lib.hid (made20_any x w2 (hX.out.below B2.out) (HM.out.step B2.out))
  clear b2 CW rg
  go_wp2_with fail
  refine CM.out.mono ?_
  rintro e w3 ⟨p, mp, r, q, mi, zz, nn, cap, i, L, l, li, lz, rfl, hS, hnn, hcap, hi, hE, b3⟩
  have HS := Lib.hid hS
  have B3 := Lib.hid (bstep B2.out b3)
  have HE : Hid (∀ k, mdE p mp r q mi zz k → w.heap.size ≤ k) := Lib.hid (fun k hk => Nat.le_trans B2.out.size (hE k hk))
  have HA3 := Lib.hid (HA.out.below B3.out)
  have HM3 := Lib.hid (HM.out.step B3.out)
  have Hcap := Lib.hid hcap
  have CP := Lib.hid (wput_all w3 p mp nn cap L s A0 bs.length c0 bs 7 hS.disk (by have := Hs.out; omega) HM3.out HA3.out (by have := Hn.out; simp only [maxLen]; omega) (by omega) hS.cost (by simp only [maxLen]; omega))
  obtain ⟨ans, hans⟩ : ∃ ans, ans = putAns cap L s bs 7 := ⟨_, rfl⟩
  rw [← hans] at CP
  have Hans := Lib.hid hans.symm
  have Hnn := Lib.hid hnn
  have Hi := Lib.hid hi
  clear hS hnn hcap hi hE b3 CM rg2 hans HG1 HG2
  have hways : decide ((1000 : Int) < (bs.length : Int)) = true ∨ decide ((1000 : Int) < (bs.length : Int)) = false := by
    cases decide ((1000 : Int) < (bs.length : Int)) <;> simp
  rcases hways with d1 | d1
  · go_wp2
    go_ret
    exact ⟨rfl, B3.out⟩
  go_wp2_with fail
  refine CP.out.mono ?_
  rintro e w4 ⟨rfl, hput, f4⟩
  have HF4 := Lib.hid f4
  have B4 : Hid (Below w.heap.size w w4) := Lib.hid (B3.out.trans (f4.below B3.out.size (fun k hk => HE.out k (.inl (.inl (.inl hk))))))
  have hways : (ans != 0) = true ∨ ((ans != 0) = false ∧ ans = 0) := by
    by_cases h : ans = 0
    · exact .inr ⟨by rw [h]; rfl, h⟩
    · exact .inl (bne_iff_ne.2 h)
  rcases hways with d2 | ⟨d2, hz⟩
  · clear hput
    go_wp2
    go_ret
    exact ⟨rfl, B4.out⟩
  obtain ⟨hd1, n4, hn4, hD4⟩ := hput
  have Hok : Hid (putAns cap L s bs 7 = 0) := Lib.hid (Hans.out.trans hz)
  obtain ⟨L1, hL1⟩ : ∃ L1, L1 = putL cap L s bs 7 hd1 := ⟨_, rfl⟩
  rw [← hL1] at hD4
  have HD4 := Lib.hid hD4
  obtain ⟨ni, hni, hI⟩ := HS.out.idx
  obtain ⟨⟨ne1, ne2, ne3⟩, ⟨nq1, nq2, nq3⟩, ⟨nm1, nm2, nm3, nm4⟩, _⟩ := HS.out.nes
  have hI4 : IdxAt w4 q mi li ni := hI.fr f4 (fun e => by rcases e with e | e; exact nq1 e; exact nq2 e) (fun e => by rcases e with e | e; exact nm1 e; exact nm2 e)
  obtain ⟨l1, hl1⟩ : ∃ l1, l1 = entW s bs 7 :: IdxLaw.clear li s := ⟨_, rfl⟩
  have hset : IdxLaw.set li (entW s bs 7) = (0, l1) := by rw [hl1]; exact entW_set Hok.out li
  have hnl : li.length ≤ ni := by have := hI.map.le; simpa [kd] using this
  have Hlen : Hid (L1.length + l1.length ≤ 1000000) := Lib.hid (by
    have h1 := putL_costs HS.out.disk.keys HS.out.cost s bs 7 hd1
    rw [← hL1] at h1
    have h2 := len_costs L1
    have h3 := clear_len li s
    have h4 := Hcap.out
    have h5 := Hi.out
    rw [hl1, List.length_cons]
    omega)
  have Hsm : Hid (smallC L1) := Lib.hid (by
    have h1 := putL_costs HS.out.disk.keys HS.out.cost s bs 7 hd1
    rw [← hL1] at h1
    have h4 := Hcap.out
    exact fun y hy => by have := one_costs hy; omega)
  have Hcost : Hid ((costs L1 : Int) ≤ cap) := Lib.hid (by rw [hL1]; exact putL_costs HS.out.disk.keys HS.out.cost s bs 7 hd1)
  have Hpath : Hid (∀ e ∈ l1, e.path.length ≤ 150) := Lib.hid (fun e he => by
    have h1 := (IdxLaw.inv_set HS.out.inv (entW s bs 7)).right
    rw [hset] at h1
    exact right_path (h1 e he))
  have Hsame : Hid (∀ now, sameB L1 l1 s now = true) := Lib.hid (fun now => by rw [hL1, hl1]; exact same_put Hok.out hd1 _ now)
  have Hl1 := Lib.hid hl1
  have HL1 := Lib.hid hL1
  have Hni : Hid (ni ≤ 30) := Lib.hid (Nat.le_trans hni Hi.out)
  have Hn4 : Hid (n4 ≤ 4100000) := Lib.hid (by have := Hnn.out; omega)
  have CY : Hid (∀ V, Below w4.heap.size w4 V → Calls Tryz.prog 9 #[.pointer (some ⟨q, 0, none⟩), .agg #[S s, I 0, S (widL bs), I (bs.length : Int), I 7]] V fun e w' => e = .returned (I 0) ∧ IdxAt w' q mi l1 (ni + 1) ∧ Fr (fun k => k = mi) V w') := Lib.hid (fun V hV => by
    have h1 := set_any V q mi ni li (entW s bs 7) (hI4.step hV) (by have := Hni.out; omega) HS.out.inv.right (by have := Hs.out; show s.length ≤ _; omega) (HM.out.step (bstep B4.out hV))
    rw [hset] at h1
    exact h1)
  have HEi : Hid (w.heap.size ≤ mi) := Lib.hid (HE.out mi (.inl (.inr (.inr rfl))))
  have CI : Hid (∀ V, Fr (fun k => k = mi) w4 V → Calls Tryz.prog 10 #[.slice A0 bs.length c0] V fun e w' => e = .returned (S (widL bs)) ∧ Below V.heap.size V w') := Lib.hid (fun V hV => wid_any A0 bs.length c0 bs V (HA.out.below (B4.out.trans (hV.below B4.out.size (fun k e => by rw [e]; exact HEi.out)))) (by have := Hn.out; omega))
  obtain ⟨own, hown⟩ : ∃ own, own = widL bs := ⟨_, rfl⟩
  rw [← hown] at CY CI
  have Hown := Lib.hid hown
  have Hmp : Hid ((mi ≠ p ∧ mi ≠ mp) ∧ (p < w4.heap.size ∧ mp < w4.heap.size)) := Lib.hid ⟨⟨nm1, nm2⟩, hD4.lt, hD4.map.lt⟩
  have Hqm : Hid ((q ≠ p ∧ q ≠ mp) ∧ (mi ≠ p ∧ mi ≠ mp)) := Lib.hid ⟨⟨nq1, nq2⟩, nm1, nm2⟩
  have Hmc : Hid (∀ t cs fr, w4.heap[mi]? ≠ some (.cells cs t fr)) := Lib.hid (fun t cs fr => hI4.map.no_cells cs fr)
  clear hz hD4 hI hI4 ne1 ne2 ne3 nq1 nq2 nq3 nm1 nm2 nm3 nm4 hset hnl hl1 hL1 hni hn4 f4 CP hown
  go_wp2_with fail
  refine (CI.out _ (Fr.refl _ _)).mono ?_
  rintro e w6 ⟨rfl, b6⟩
  have B6 := Lib.hid b6
  clear b6
  go_wp2_with fail
  refine (CY.out _ B6.out).mono ?_
  rintro e w9 ⟨rfl, hI9, f9⟩
  have HI9 := Lib.hid hI9
  have HF9 : Hid (Fr (fun k => k = mi) w4 w9) := Lib.hid ((Fr.of_below B6.out).trans f9)
  have B9 : Hid (Below w.heap.size w w9) := Lib.hid (B4.out.trans (HF9.out.below B4.out.size (fun k e => by rw [e]; exact HEi.out)))
  have HD9 : Hid (DiskAt w9 p mp n4 cap L1) := Lib.hid (HD4.out.keep (HF9.out.block p Hmp.out.2.1 (fun e => Hmp.out.1.1 e.symm)) (HF9.out.block mp Hmp.out.2.2 (fun e => Hmp.out.1.2 e.symm)) (KeepT.of_fr HF9.out (fun k cs fr e => by subst e; exact Hmc.out _ cs fr)))
  clear hI9 f9 CY CI
  obtain ⟨wd, hwd⟩ : ∃ wd, wd = w9 := ⟨_, rfl⟩
  subst hwd
  have HM9 := Lib.hid (HM.out.step B9.out)
  have HA9 := Lib.hid (HA.out.below B9.out)
  go_wp2
  go_loopw [14] (fun iv wr => ∃ t : Nat, t ≤ 10 ∧ iv = .int .i64 t ∧ Hid (Below wd.heap.size wd wr)) (fun iv _ => 10 - (intOf iv).toNat)
  case atStart => exact ⟨6, by omega, rfl, Lib.hid (Below.refl _ _)⟩
  case round =>
    obtain ⟨t, ht, rfl, hB7⟩ := hrel
    by_cases hlt : t < 10
    · have CSt := Lib.hid (wstatus_any wr p mp n4 cap L1 q mi (ni + 1) l1 (t : Int) (HD9.out.step hB7.out) (HI9.out.step hB7.out) (by have := Hni.out; omega) (HM9.out.step hB7.out) Hsm.out Hlen.out Hpath.out)
      have hlt' : decide ((t : Int) < 10) = true := decide_eq_true (by omega)
      go_wp2_with fail
      refine CSt.out.mono ?_
      rintro e w8 ⟨A8, n8, c8, xs, rfl, hn8, hS8, hno, b8⟩
      have HS8 := Lib.hid hS8
      have Hno := Lib.hid hno
      have B8 := Lib.hid (bstep hB7.out b8)
      clear hS8 hno b8 CSt hlt'
      obtain ⟨we, hwe⟩ : ∃ we, we = w8 := ⟨_, rfl⟩
      subst hwe
      have CSa : Hid (∀ V, Below we.heap.size we V → Calls Tryz.prog 12 #[.pointer (some ⟨p, 0, none⟩), .pointer (some ⟨q, 0, none⟩), S s, I (t : Int)] V fun e w' => e = .returned (.bool true) ∧ Below V.heap.size V w') := Lib.hid (fun V hV => by
        have h1 := wsame_any V p mp n4 cap L1 q mi (ni + 1) l1 s (t : Int) (HD9.out.step (bstep B8.out hV)) (HI9.out.step (bstep B8.out hV)) (by have := Hs.out; omega) (HM9.out.step (bstep B8.out hV)) Hsm.out
        rw [Hsame.out] at h1
        exact h1)
      go_wp2
      go_loopw [16] (fun iv W => ∃ j : Nat, j ≤ n8 ∧ iv = .int .i64 j ∧ Hid (Below we.heap.size we W)) (fun iv _ => n8 - (intOf iv).toNat)
      case atStart => exact ⟨0, Nat.zero_le _, rfl, Lib.hid (Below.refl _ _)⟩
      case round =>
        obtain ⟨j, hj, rfl, hB9⟩ := hrel
        by_cases hlt2 : j < n8
        · obtain ⟨b9, off, y, rfl, hbw, hy, y0, _⟩ := (HS8.out.below hB9.out).fil hlt2
          have hne : y.1 ≠ s := fun e => by
            have h1 := Hno.out y (List.mem_of_getElem? hy)
            rw [e, Hsame.out] at h1
            cases h1
          have hn1 : (y.1 == s) = false := beq_eq_false_iff_ne.2 hne
          have hn2 := ba_ne' hne
          clear hy hbw hne
          go_wp2
          go_roundw
          case rel => exact ⟨j + 1, hlt2, by go_num, hB9⟩
          case measure => simp [intOf]; omega
        · go_wp2_with fail
          refine (CSa.out _ hB9.out).mono ?_
          rintro e w10 ⟨rfl, b10⟩
          have B10 := Lib.hid (bstep (bstep B8.out hB9.out) b10)
          clear b10
          go_wp2
          go_roundw
          case rel => exact ⟨t + 1, by omega, by go_num, B10⟩
          case measure => simp [intOf]; omega
    · have hlt' : decide ((t : Int) < 10) = false := decide_eq_false (by omega)
      have hways : ((bs.length : Int) == 0) = true ∨ (((bs.length : Int) == 0) = false ∧ 0 < bs.length) := by
        by_cases h : bs.length = 0
        · exact .inl (by rw [h]; rfl)
        · exact .inr ⟨beq_eq_false_iff_ne.2 (by omega), by omega⟩
      rcases hways with hz | ⟨hz, hpos⟩
      · go_wp2
        go_ret
        exact ⟨rfl, bstep B9.out hB7.out⟩
      obtain ⟨b0, bt, hbs⟩ : ∃ b0 bt, bs = b0 :: bt := by
        cases bs with
        | nil => simp at hpos
        | cons b0 bt => exact ⟨b0, bt, rfl⟩
      have Hbs := Lib.hid hbs
      have HAr := Lib.hid (HA9.out.below hB7.out)
      have HMr := Lib.hid (HM9.out.step hB7.out)
      have q1 : 0 + bs.length ≤ maxLen := by have := Hn.out; simp only [maxLen]; omega
      have q2 : (0 + bs.length) * 1 ≤ 140737488355328 := by have := Hn.out; omega
      clear hbs
      go_wp2_with (at_builtin; refine wpList_append_sl _ rfl (.tmp 88) (.tmp 89) _ rfl wr 5 i0 _ 1 1 Tryz.underlying27 hi0 hz0 hz1 hz2 rfl Nat.one_pos none 0 0 [] rfl (Ow.nil_ (Below.refl _ _)) A0 bs.length c0 (u8s bs) rfl HAr.out (one_u8s bs) q1 q2 ?_; intro A4 c4 w4 hO4 hg4 hat4; rw [Nat.zero_add, List.nil_append] at hO4; obtain ⟨g, rfl, hg0, hg1⟩ := hO4.form hpos; obtain ⟨bx, ox, bb, e1, hbb, y0⟩ := hO4.sl.byte hpos; cases e1; rw [Hbs.out] at hbb; obtain rfl : b0 = bb := Option.some.inj hbb; clear hbb; have hfz := ow_frz hO4; have HO4 := Lib.hid hO4; clear hO4 hg4 hat4 hg0 hg1)
      obtain ⟨cs, hcs⟩ : ∃ cs, cs = (b0 + 1) :: bt := ⟨_, rfl⟩
      obtain ⟨W5, hW5⟩ : ∃ W5, W5 = w4.setCell ⟨g, 0, none⟩ (U8 (b0 + 1)) := ⟨_, rfl⟩
      have e8 : Value.int .u8 (((b0.toNat : Int) + 1) % 256) = U8 (b0 + 1) := by
        have : ((b0 + 1).toNat : Int) = ((b0.toNat : Int) + 1) % 256 := by rw [UInt8.toNat_add]; simp
        show _ = Value.int .u8 _
        rw [this]
      have HO5 : Hid (Ow wr W5 5 1 (some ⟨g, 0, none⟩) bs.length c4 (u8s cs)) := Lib.hid (by
        have h1 := HO4.out.set_ 0 (U8 (b0 + 1))
        rw [← hW5] at h1
        have h2 : (u8s bs).set 0 (U8 (b0 + 1)) = u8s cs := by rw [Hbs.out, hcs]; rfl
        rw [h2] at h1
        exact h1)
      have hcl : cs.length = bs.length := by rw [Hbs.out, hcs]; rfl
      have B5 : Hid (Below wd.heap.size wd W5) := Lib.hid (bstep hB7.out HO5.out.2)
      have HM5 := Lib.hid (HM9.out.step B5.out)
      have HD5 := Lib.hid (HD9.out.step B5.out)
      have HI5 := Lib.hid (HI9.out.step B5.out)
      have CP := Lib.hid (wput_all W5 p mp n4 cap L1 s (some ⟨g, 0, none⟩) bs.length c4 cs 7 HD5.out (by have := Hs.out; omega) HM5.out HO5.out.sl (by have := Hn.out; simp only [maxLen]; omega) (by have := Hcap.out; omega) Hcost.out (by have := Hn4.out; simp only [maxLen]; omega))
      obtain ⟨an2, han2⟩ : ∃ an2, an2 = putAns cap L1 s cs 7 := ⟨_, rfl⟩
      rw [← han2] at CP
      have Han2 := Lib.hid han2
      have Hcl := Lib.hid hcl
      rw [e8, ← hW5]
      clear y0 hfz hW5 HO4 hcs han2 hcl e8 HAr HMr
      refine CP.out.mono ?_
      rintro e w6 ⟨rfl, hput2, f6⟩
      have Hput2 := Lib.hid hput2
      have HF6 := Lib.hid f6
      have hpW : p < wr.heap.size ∧ mp < wr.heap.size := by
        have h1 := Hmp.out.2
        have h2 := HF9.out.size
        have h3 := hB7.out.size
        omega
      have HS6 : Hid (Sl w6 1 (some ⟨g, 0, none⟩) bs.length (u8s cs)) := Lib.hid (by
        have h1 := own_fr HO5.out.1 f6 (fun k hk => by rcases hk with rfl | rfl; exact hpW.1; exact hpW.2)
        obtain ⟨V, _, h2⟩ := ow_cut h1 (Nat.le_trans HO5.out.2.size f6.size)
        exact h2.sl)
      have B6 : Hid (Below w.heap.size w w6) := Lib.hid ((bstep B9.out B5.out).trans (f6.below (bstep B9.out B5.out).size (fun k hk => HE.out k (.inl (.inl (.inl hk))))))
      have CI1 := Lib.hid (wid_any (some ⟨g, 0, none⟩) bs.length c4 cs w6 HS6.out (by have := Hn.out; omega))
      obtain ⟨ow2, how2⟩ : ∃ ow2, ow2 = widL cs := ⟨_, rfl⟩
      rw [← how2] at CI1
      have How2 := Lib.hid how2
      have HM6 := Lib.hid (HM.out.step B6.out)
      clear hput2 f6 CP how2 hpW
      go_wp2_with fail
      refine CI1.out.mono ?_
      rintro e w7 ⟨rfl, b7⟩
      have B7 := Lib.hid b7
      have CI2 := Lib.hid (wid_any A0 bs.length c0 bs w7 (HA.out.below (bstep B6.out b7)) (by have := Hn.out; omega))
      rw [← Hown.out] at CI2
      clear b7 CI1
      go_wp2_with fail
      refine CI2.out.mono ?_
      rintro e w8 ⟨rfl, b8⟩
      have B8 := Lib.hid (bstep B7.out b8)
      clear b8 CI2
      have hways : ow2 = own ∨ (ow2 ≠ own ∧ (ow2 == own) = false ∧ ((⟨ow2.toArray⟩ : ByteArray) == ⟨own.toArray⟩) = false) := by
        by_cases h : ow2 = own
        · exact .inl h
        · exact .inr ⟨h, beq_eq_false_iff_ne.2 h, ba_ne' h⟩
      rcases hways with rfl | ⟨hne, hn1, hn2⟩
      · go_wp2
        go_ret
        exact ⟨rfl, bstep B6.out B8.out⟩
      have Hne := Lib.hid hne
      have hways : (an2 != 0) = true ∨ ((an2 != 0) = false ∧ an2 = 0) := by
        by_cases h : an2 = 0
        · exact .inr ⟨by rw [h]; rfl, h⟩
        · exact .inl (bne_iff_ne.2 h)
      rcases hways with d2 | ⟨d2, hz2⟩
      · clear hne
        go_wp2
        go_ret
        exact ⟨rfl, bstep B6.out B8.out⟩
      obtain ⟨hd2, n6, hn6, hD6⟩ := Hput2.out
      have CSa : Hid (∀ V, Below w6.heap.size w6 V → Calls Tryz.prog 12 #[.pointer (some ⟨p, 0, none⟩), .pointer (some ⟨q, 0, none⟩), S s, I 7] V fun e w' => e = .returned (.bool false) ∧ Below V.heap.size V w') := Lib.hid (fun V hV => by
        have hc2 : (costs (putL cap L1 s cs 7 hd2) : Int) ≤ cap := putL_costs HD9.out.keys Hcost.out s cs 7 hd2
        have h1 := wsame_any V p mp n6 cap (putL cap L1 s cs 7 hd2) q mi (ni + 1) l1 s 7 (hD6.step hV) ((HI5.out.fr HF6.out (fun e => by rcases e with e | e; exact Hqm.out.1.1 e; exact Hqm.out.1.2 e) (fun e => by rcases e with e | e; exact Hqm.out.2.1 e; exact Hqm.out.2.2 e)).step hV) (by have := Hs.out; omega) (HM6.out.step hV) (fun y hy => by have h1 := one_costs hy; have h2 := Hcap.out; omega)
        have h2 : sameB (putL cap L1 s cs 7 hd2) l1 s 7 = false := by
          rw [Hl1.out]
          exact same_other (Han2.out.symm.trans hz2) hd2 _ (by rw [← How2.out, ← Hown.out]; exact Hne.out)
        rw [h2] at h1
        exact h1)
      clear hD6 hn6 hne hz2
      go_wp2_with fail
      refine (CSa.out _ B8.out).mono ?_
      rintro e w10 ⟨rfl, b10⟩
      have B10 := Lib.hid (bstep (bstep B6.out B8.out) b10)
      clear b10
      go_wp2
      go_ret
      exact ⟨rfl, B10.out⟩
end Go.Proofs.YtphnfcgdpdimbaaGreatDoor

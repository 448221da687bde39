/-
  dolmenref14.Decode: which index bytes are, as the document says. Condition: no more than 1500000 bytes.
-/
import Derived.Test.YtjcelelgebohkaaGreatDoorRiDecSt
import Derived.Test.YtjcelelgebohkaaGreatDoorIdxTheirs
import Derived.Test.YtjcelelgebohkaaGreatDoorIdxDec
namespace Go.Proofs.YtjcelelgebohkaaGreatDoor
open Go.RowKit
open IdxLaw (Ent Key zE sortE Inv)

/-- what the document's Decode returns -/
def RetDecR (w : World) (b : List UInt8) (e : Ending) (w' : World) : Prop :=
  (decR b = none ∧ e = .returned (.tuple #[.pointer none, I 2]) ∧ Below w.heap.size w w') ∨
  (∃ (q : Nat) (l : List Ent) (A : Option Addr) (c : Nat), decR b = some l ∧ e = .returned (.tuple #[.pointer (some ⟨q, 0, none⟩), I 0]) ∧ Blk w' q 29 #[.slice A l.length c] ∧ Ow w w' 32 5 A l.length c (ents l) ∧ w.heap.size ≤ q)
def rd1Phi (q b9 off kk ll cq : Nat) (x y : Ent) (bb : Bool) : Nat → Value → World → Prop
  | 0, v, _ => v = .pointer (some ⟨q, 0, none⟩)
  | 1, v, _ => v = .pointer (some ⟨q, 0, none⟩)
  | 2, v, _ => v = .pointer (some ⟨q, 0, none⟩)
  | 3, v, _ => v = .slice (some ⟨b9, off, none⟩) ll cq
  | 4, v, _ => v = I ((kk : Int))
  | 5, v, _ => v = .pointer (some ⟨b9, off + kk * 5, none⟩)
  | 6, v, _ => v = entV x
  | 7, v, _ => v = entV y
  | 8, v, _ => v = .bool bb
  | _, _, _ => True
theorem rd1Phi_mono {q b9 off kk ll cq : Nat} {x y : Ent} {bb : Bool} : ∀ (j : Nat) (v : Value) (w w' : World), rd1Phi q b9 off kk ll cq x y bb j v w → Below w.heap.size w w' → rd1Phi q b9 off kk ll cq x y bb j v w' := by
  intro j v w w' h _
  match j, h with
  | 0, h => exact h
  | 1, h => exact h
  | 2, h => exact h
  | 3, h => exact h
  | 4, h => exact h
  | 5, h => exact h
  | 6, h => exact h
  | 7, h => exact h
  | 8, h => exact h
  | (n + 9), _ => trivial
def rd2Phi (q ll cq g6 c5 : Nat) (Aq A5 : Option Addr) (y : Ent) : Nat → Value → World → Prop
  | 0, v, _ => v = .pointer (some ⟨q, 0, none⟩)
  | 1, v, _ => v = .pointer (some ⟨q, 0, none⟩)
  | 2, v, _ => v = .pointer (some ⟨q, 0, none⟩)
  | 3, v, _ => v = .pointer (some ⟨q, 0, none⟩)
  | 4, v, _ => v = .slice Aq ll cq
  | 5, v, _ => v = entV y
  | 6, v, _ => v = .slice (some ⟨g6, 0, none⟩) 1 1
  | 7, v, _ => v = .slice A5 (ll + 1) c5
  | 8, v, _ => v = .pointer (some ⟨q, 0, none⟩)
  | 9, v, _ => v = .pointer (some ⟨q, 0, none⟩)
  | _, _, _ => True
set_option maxHeartbeats 8000000 in
set_option maxRecDepth 100000 in
theorem rdecode_any (A0 : Option Addr) (n0 c0 : Nat) (b : List UInt8) (w : World) (hA : Sl w 1 A0 n0 (u8s b)) (hc : n0 ≤ c0) (hn : n0 ≤ 1500000) :
    Calls Tryz.prog 19 #[.slice A0 n0 c0] w (RetDecR w b) := by
  obtain ⟨i0, hi0, hi1, hi2, hi3⟩ := info_parts Tryz.infoREnt
  have hl := u8s_len hA
  have CT := refTakeNum_any A0 n0 c0 b w hA hc (by omega)
  go_enter Tryz.func19, Tryz.ntmps19
  go_wp2_with fail
  refine CT.mono ?_
  clear CT
  rintro e w1 (⟨N, b0, A1, m1, c1, ht, rfl, hO1⟩ | ⟨ht, rfl, b1⟩)
  case inr =>
    have hD : Hid (decR b = none) := Lib.hid (by unfold decR; rw [ht])
    have B1 := Lib.hid b1
    clear ht b1
    go_wp2
    go_loopw [2, 3, 5, 6, 8, 9, 10] (fun s2 s3 s5 s6 s8 s9 s10 wr => s2 = .pointer none ∧ s3 = I 0 ∧ s6 = I 2 ∧ s8 = I 0 ∧ wr = w1.alloc (.cells #[.slice none 0 0] 29)) (fun _ _ _ _ _ _ _ _ => 0)
    case atStart => exact ⟨rfl, rfl, rfl, rfl, rfl⟩
    case round =>
      obtain ⟨rfl, rfl, rfl, rfl, rfl⟩ := hrel
      go_wp2
      refine bodyPost_ret (v := .tuple #[.pointer none, I 2]) (by simp [results, Tryz.results19, go_sem]) rfl ?_
      exact .inl ⟨hD.out, rfl, bstep B1.out (balloc (Below.refl _ _) _)⟩
  have hbl := takeNum_len ht
  have hNl : N < top62 := takeGo_lt _ _ _ _ _ ht
  unfold top62 at hNl
  have HDEC : Hid (decR b = endR (goR N [] b0)) := Lib.hid (decR_of ht)
  have hq : w.heap.size ≤ w1.heap.size := hO1.2.size
  obtain ⟨q, hqe⟩ : ∃ q, q = w1.heap.size := ⟨_, rfl⟩
  have hb2 := balloc (Below.refl w1.heap.size w1) (.cells #[.slice none 0 0] 29)
  have IX1 := Lib.hid (Blk.new w1 29 #[.slice none 0 0])
  have BY1 : Hid (BSl (w1.alloc (.cells #[.slice none 0 0] 29)) w.heap.size A1 m1 c1 b0) := Lib.hid
    ((show BSl w1 w.heap.size A1 m1 c1 b0 from ⟨hO1.sl, hO1.cap.1, by have := u8s_len hO1.sl; omega, fun _ a ha => .inr (hO1.blkT ha)⟩).step hb2)
  have B1 := Lib.hid (bstep hO1.2 hb2)
  have OW1 : Hid (Ow w (w1.alloc (.cells #[.slice none 0 0] 29)) 32 5 none 0 0 (ents [])) := Lib.hid (Ow.nil_ B1.out)
  rw [← hqe] at hq IX1
  clear ht hO1 hb2
  go_wp2
  simp only [← hqe]
  clear hqe
  go_loopw [2, 3, 5, 6, 8, 9, 10] (fun s2 s3 s5 s6 s8 s9 s10 wr => ∃ (k : Nat) (l : List Ent) (rb : List UInt8) (A : Option Addr) (m c : Nat) (Aq : Option Addr) (cq : Nat), s2 = .pointer none ∧ s3 = I 0 ∧ s5 = .slice A m c ∧ s6 = I 0 ∧ s8 = .int .i64 k ∧ Hid (k ≤ N) ∧ Hid (goR (N - k) l rb = goR N [] b0) ∧ Hid (BSl wr w.heap.size A m c rb) ∧ Hid (Blk wr q 29 #[.slice Aq l.length cq]) ∧ Hid (Ow w wr 32 5 Aq l.length cq (ents l)) ∧ Hid (l.length + rb.length ≤ n0)) (fun _ _ _ _ s8 _ _ _ => N - (intOf s8).toNat)
  case atStart => exact ⟨0, [], b0, A1, m1, c1, none, 0, rfl, rfl, rfl, rfl, rfl, Lib.hid (Nat.zero_le _), Lib.hid rfl, BY1, IX1, OW1, Lib.hid (by simp; omega)⟩
  case round =>
    obtain ⟨k, l, rb, A, m, c, Aq, cq, rfl, rfl, rfl, rfl, rfl, hk, hgo, hBS, hIX, hOW, hcn⟩ := hrel
    have hkN := hk.out
    have hcn' := hcn.out
    have hm := u8s_len hBS.out.1
    by_cases hlt : k < N
    · obtain ⟨j, hj⟩ : ∃ j, N - k = j + 1 := ⟨N - k - 1, by omega⟩
      have Hgo : Hid (goR (j + 1) l rb = goR N [] b0) := Lib.hid (by rw [← hj]; exact hgo.out)
      have hDn : Hid (goR (j + 1) l rb = none → decR b = none) := Lib.hid (fun h => by rw [HDEC.out, ← Hgo.out, h]; rfl)
      obtain ⟨g, hg⟩ : ∃ g, g = wr.heap.size := ⟨_, rfl⟩
      have hby := balloc (Below.refl _ wr) (.cells #[S [], I 0, S [], I 0, I 0] 32)
      have hRS : RS w (wr.alloc (.cells #[S [], I 0, S [], I 0, I 0] 32)) q g Aq cq l A m c rb ⟨[], 0, [], 0, 0⟩ := by
        refine ⟨hIX.out.step hby, hOW.out.keep hby, hBS.out.step hby, by rw [hg]; exact Blk.new wr _ _, hq, by rw [hg]; exact hOW.out.2.size, by rw [hg]; exact Nat.ne_of_lt hIX.out.lt, fun e => ?_⟩
        have h1 := (hOW.out.1.lt g e.symm).2
        omega
      have RS0 := Lib.hid hRS
      have r0 := hRS.box.cell
      have f0 := hRS.box.frozen
      clear hRS hby hlt
      go_wp2_with fail
      simp only [← hg]
      clear hg
      refine (refTakeText_any A m c 1000 rb _ RS0.out.bytes.1 RS0.out.bytes.2.1 (by have := RS0.out.bytes.2.2.1; omega)).mono ?_
      rintro e w2 (⟨s1, rb1, Ab1, mb1, cb1, ht1, rfl, hS, hc2, hbk, hb⟩ | ⟨ht1, rfl, hb⟩)
      case inr =>
        have hD : Hid (decR b = none) := Lib.hid (hDn.out (goR_no (takeE_1  ht1)))
        have RSf := RS0.out.step hb
        have rf := RSf.box.cell
        have ff := RSf.box.frozen
        have Bf := Lib.hid RSf.own.2
        have hgf := Lib.hid RSf.hg
        clear hb ht1 RSf r0 f0
        go_wp2
        refine bodyPost_ret (v := .tuple #[.pointer none, I 2]) (by simp [results, Tryz.results19, go_sem]) rfl ?_
        exact .inl ⟨hD.out, rfl, Bf.out.setCell hgf.out _⟩
      have hln1 : rb1.length ≤ rb.length := takeText_len ht1
      have RSa := ((RS0.out.step hb).rest (⟨hS, hc2, by have h1 := u8s_len hS; have h2 := takeText_len ht1; have h3 := u8s_len RS0.out.bytes.1; have h4 := RS0.out.bytes.2.2.1; omega, fun _ a ha => .inr (hbk a ha)⟩))
      have ra1 := RSa.box.cell
      have fa1 := RSa.box.frozen
      have RS1 := Lib.hid (RSa.put 0 (S s1) (y' := ⟨s1, 0, [], 0, 0⟩) rfl)
      have ht1 := Lib.hid ht1
      clear RSa hS hc2 hbk hb r0 f0
      go_wp2_with fail
      refine (refTakeNum_any Ab1 mb1 cb1 rb1 _ RS1.out.bytes.1 RS1.out.bytes.2.1 (by have := RS1.out.bytes.2.2.1; omega)).mono ?_
      rintro e w3 (⟨n2, rb2, Ab2, mb2, cb2, ht2, rfl, hO⟩ | ⟨ht2, rfl, hb⟩)
      case inr =>
        have hD : Hid (decR b = none) := Lib.hid (hDn.out (goR_no (takeE_2 ht1.out ht2)))
        have RSf := RS1.out.step hb
        have rf := RSf.box.cell
        have ff := RSf.box.frozen
        have Bf := Lib.hid RSf.own.2
        have hgf := Lib.hid RSf.hg
        clear hb ht2 RSf
        go_wp2
        refine bodyPost_ret (v := .tuple #[.pointer none, I 2]) (by simp [results, Tryz.results19, go_sem]) rfl ?_
        exact .inl ⟨hD.out, rfl, Bf.out.setCell hgf.out _⟩
      have hln2 : rb2.length < rb1.length := takeNum_len ht2
      have RSa := ((RS1.out.step hO.2).rest (⟨hO.sl, hO.cap.1, by have h1 := u8s_len hO.sl; have h2 := takeNum_len ht2; have h3 := u8s_len RS1.out.bytes.1; have h4 := RS1.out.bytes.2.2.1; omega, fun _ a ha => .inr (hO.blkT ha)⟩))
      have ra2 := RSa.box.cell
      have fa2 := RSa.box.frozen
      have RS2 := Lib.hid (RSa.put 1 (I (n2 : Nat)) (y' := ⟨s1, (n2 : Int), [], 0, 0⟩) rfl)
      have ht2 := Lib.hid ht2
      clear RSa hO ra1 fa1
      go_wp2_with fail
      refine (refTakeText_any Ab2 mb2 cb2 1000 rb2 _ RS2.out.bytes.1 RS2.out.bytes.2.1 (by have := RS2.out.bytes.2.2.1; omega)).mono ?_
      rintro e w4 (⟨s3, rb3, Ab3, mb3, cb3, ht3, rfl, hS, hc2, hbk, hb⟩ | ⟨ht3, rfl, hb⟩)
      case inr =>
        have hD : Hid (decR b = none) := Lib.hid (hDn.out (goR_no (takeE_3 ht1.out ht2.out ht3)))
        have RSf := RS2.out.step hb
        have rf := RSf.box.cell
        have ff := RSf.box.frozen
        have Bf := Lib.hid RSf.own.2
        have hgf := Lib.hid RSf.hg
        clear hb ht3 RSf
        go_wp2
        refine bodyPost_ret (v := .tuple #[.pointer none, I 2]) (by simp [results, Tryz.results19, go_sem]) rfl ?_
        exact .inl ⟨hD.out, rfl, Bf.out.setCell hgf.out _⟩
      have hln3 : rb3.length ≤ rb2.length := takeText_len ht3
      have RSa := ((RS2.out.step hb).rest (⟨hS, hc2, by have h1 := u8s_len hS; have h2 := takeText_len ht3; have h3 := u8s_len RS2.out.bytes.1; have h4 := RS2.out.bytes.2.2.1; omega, fun _ a ha => .inr (hbk a ha)⟩))
      have ra3 := RSa.box.cell
      have fa3 := RSa.box.frozen
      have RS3 := Lib.hid (RSa.put 2 (S s3) (y' := ⟨s1, (n2 : Int), s3, 0, 0⟩) rfl)
      have ht3 := Lib.hid ht3
      clear RSa hS hc2 hbk hb ra2 fa2
      go_wp2_with fail
      refine (refTakeNum_any Ab3 mb3 cb3 rb3 _ RS3.out.bytes.1 RS3.out.bytes.2.1 (by have := RS3.out.bytes.2.2.1; omega)).mono ?_
      rintro e w5 (⟨n4, rb4, Ab4, mb4, cb4, ht4, rfl, hO⟩ | ⟨ht4, rfl, hb⟩)
      case inr =>
        have hD : Hid (decR b = none) := Lib.hid (hDn.out (goR_no (takeE_4 ht1.out ht2.out ht3.out ht4)))
        have RSf := RS3.out.step hb
        have rf := RSf.box.cell
        have ff := RSf.box.frozen
        have Bf := Lib.hid RSf.own.2
        have hgf := Lib.hid RSf.hg
        clear hb ht4 RSf
        go_wp2
        refine bodyPost_ret (v := .tuple #[.pointer none, I 2]) (by simp [results, Tryz.results19, go_sem]) rfl ?_
        exact .inl ⟨hD.out, rfl, Bf.out.setCell hgf.out _⟩
      have hln4 : rb4.length < rb3.length := takeNum_len ht4
      have RSa := ((RS3.out.step hO.2).rest (⟨hO.sl, hO.cap.1, by have h1 := u8s_len hO.sl; have h2 := takeNum_len ht4; have h3 := u8s_len RS3.out.bytes.1; have h4 := RS3.out.bytes.2.2.1; omega, fun _ a ha => .inr (hO.blkT ha)⟩))
      have ra4 := RSa.box.cell
      have fa4 := RSa.box.frozen
      have RS4 := Lib.hid (RSa.put 3 (I (n4 : Nat)) (y' := ⟨s1, (n2 : Int), s3, (n4 : Int), 0⟩) rfl)
      have ht4 := Lib.hid ht4
      clear RSa hO ra3 fa3
      go_wp2_with fail
      refine (refTakeNum_any Ab4 mb4 cb4 rb4 _ RS4.out.bytes.1 RS4.out.bytes.2.1 (by have := RS4.out.bytes.2.2.1; omega)).mono ?_
      rintro e w6 (⟨n5, rb5, Ab5, mb5, cb5, ht5, rfl, hO⟩ | ⟨ht5, rfl, hb⟩)
      case inr =>
        have hD : Hid (decR b = none) := Lib.hid (hDn.out (goR_no (takeE_5 ht1.out ht2.out ht3.out ht4.out ht5)))
        have RSf := RS4.out.step hb
        have rf := RSf.box.cell
        have ff := RSf.box.frozen
        have Bf := Lib.hid RSf.own.2
        have hgf := Lib.hid RSf.hg
        clear hb ht5 RSf
        go_wp2
        refine bodyPost_ret (v := .tuple #[.pointer none, I 2]) (by simp [results, Tryz.results19, go_sem]) rfl ?_
        exact .inl ⟨hD.out, rfl, Bf.out.setCell hgf.out _⟩
      have hln5 : rb5.length < rb4.length := takeNum_len ht5
      have RSa := ((RS4.out.step hO.2).rest (⟨hO.sl, hO.cap.1, by have h1 := u8s_len hO.sl; have h2 := takeNum_len ht5; have h3 := u8s_len RS4.out.bytes.1; have h4 := RS4.out.bytes.2.2.1; omega, fun _ a ha => .inr (hO.blkT ha)⟩))
      have ra5 := RSa.box.cell
      have fa5 := RSa.box.frozen
      have RS5 := Lib.hid (RSa.put 4 (I (n5 : Nat)) (y' := ⟨s1, (n2 : Int), s3, (n4 : Int), (n5 : Int)⟩) rfl)
      have ht5 := Lib.hid ht5
      clear RSa hO ra4 fa4
      obtain ⟨y, hy⟩ : ∃ y : Ent, y = ⟨s1, (n2 : Int), s3, (n4 : Int), (n5 : Int)⟩ := ⟨_, rfl⟩
      have HT := Lib.hid (takeE_6 ht1.out ht2.out ht3.out ht4.out ht5.out)
      have hsl : s1.length ≤ 1000 := (takeText_inv ht1.out).2
      have RSx := Lib.hid RS5.out
      rw [← hy] at HT RSx
      have HY := Lib.hid hy
      have hyp : y.path.length ≤ 2147483648 := by rw [hy]; show s1.length ≤ _; omega
      have ry := RS5.out.box.cell
      have HRT := Lib.hid (fun W => rright_any y W hyp)
      have RSy := Lib.hid RS5.out
      clear hy RS5 hsl ht1 ht2 ht3 ht4 ht5 RS0 RS1 RS2 RS3 RS4
      rcases hr : IdxLaw.right y with _ | _
      · have hD : Hid (decR b = none) := Lib.hid (hDn.out (goR_bad HT.out (fun h => by rw [hr] at h; cases h.1)))
        rw [hr] at HRT
        rw [HY.out] at HRT
        clear hr
        go_wp2_with (go_at_call 58; refine (HRT.out _).mono ?_; rintro e w8 ⟨rfl, b8⟩; have B8 := Lib.hid (bstep RSx.out.own.2 b8); clear b8)
        refine bodyPost_ret (v := .tuple #[.pointer none, I 2]) (by simp [results, Tryz.results19, go_sem]) rfl ?_
        exact .inl ⟨hD.out, rfl, B8.out⟩
      · rw [hr] at HRT
        rw [HY.out] at HRT
        have Hr := Lib.hid hr
        have Hpl := Lib.hid (show y.path.length ≤ maxLen from Nat.le_trans hyp (by decide))
        clear hr
        go_wp2_with (go_at_call 58; refine (HRT.out _).mono ?_; rintro e w8 ⟨rfl, b8⟩; have B8 := Lib.hid (bstep RSx.out.own.2 b8); have RS8 := Lib.hid (RSx.out.step b8); have RS8y := Lib.hid (RSy.out.step b8); clear b8 ry)
        go_loopw [2, 3, 10] (fun s2 s3 s10 wr => ∃ kk : Nat, s2 = .pointer none ∧ s3 = I 0 ∧ s10 = .int .i64 kk ∧ Hid (kk ≤ l.length) ∧ Hid ((l.take kk).all (fun a => bes2 a y) = true) ∧ Hid (Below w8.heap.size w8 wr)) (fun _ _ s10 _ => l.length - (intOf s10).toNat)
        case atStart => exact ⟨0, rfl, rfl, rfl, Lib.hid (Nat.zero_le _), Lib.hid (by simp), Lib.hid (Below.refl _ _)⟩
        case round =>
          obtain ⟨kk, rfl, rfl, rfl, hkk, hal, hbI⟩ := hrel
          have rix := (RS8.out.step hbI.out).ix.cell
          by_cases hlt : kk < l.length
          · obtain ⟨b9, off, x, rfl, _, hx, z0, z1, z2, z3, z4⟩ := (RS8.out.step hbI.out).own.sl.ent hlt
            have Hx := Lib.hid hx
            have RSx := Lib.hid RS8.out
            have Hx2 : Hid (∀ w', Below wr.heap.size wr w' → w'.cell? ⟨b9, off + kk * 5, none⟩ = some (S x.path) ∧ w'.cell? ⟨b9, off + kk * 5 + 1, none⟩ = some (I x.stage) ∧ w'.cell? ⟨b9, off + kk * 5 + 2, none⟩ = some (S x.id) ∧ w'.cell? ⟨b9, off + kk * 5 + 3, none⟩ = some (I x.size) ∧ w'.cell? ⟨b9, off + kk * 5 + 4, none⟩ = some (I x.stamp)) := Lib.hid (fun w' hb' => by
              obtain ⟨b', off', x', e1, _, hx', y0, y1, y2, y3, y4⟩ := (RS8.out.step (bstep hbI.out hb')).own.sl.ent hlt
              cases e1
              obtain rfl : x' = x := Option.some.inj (hx'.symm.trans Hx.out)
              exact ⟨y0, y1, y2, y3, y4⟩)
            have CB := Lib.hid (fun W => rbeside_any x y W Hpl.out)
            obtain ⟨bb, hbb⟩ : ∃ bb, bb = bes2 x y := ⟨_, rfl⟩
            rw [← hbb] at CB
            have Hbb := Lib.hid hbb
            clear z0 z1 z2 z3 z4 hx hbb
            go_wp2
            clear rix
            refine wp_region_guards (by kernel_rfl) 9 (by kernel_rfl) ?_ (rd1Phi q b9 off kk l.length cq x y bb) rd1Phi_mono (fun i o hi ho a w hb hs hm => ?_) (fun o ho a w hb hs hm => ?_)
            · exact dst_ltT (n := 115) (by kernel_rfl)
            · exact match i, hi, ho with
            | 0, _, ho => by
                cases ho
                rw [if_pos (wanted_none _ rfl)]
                refine wp_value (st_move rfl ((hs.keeps (by kernel_rfl)).trans rfl)) ⟨_, rfl, rfl, Below.refl _ _⟩
            | 1, _, ho => by
                cases ho
                rw [if_pos (wanted_none _ rfl)]
                refine wp_value (st_nil rfl (hm.get 0 87 (by kernel_rfl))) ⟨_, rfl, rfl, Below.refl _ _⟩
            | 2, _, ho => by
                cases ho
                rw [if_pos (wanted_none _ rfl)]
                refine wp_value (st_field rfl (hm.get 1 88 (by kernel_rfl)) (by kernel_rfl)) ⟨_, rfl, rfl, Below.refl _ _⟩
            | 3, _, ho => by
                cases ho
                rw [if_pos (wanted_none _ rfl)]
                have hx : w.cell? ⟨q, 0, none⟩ = some (.slice (some ⟨b9, off, none⟩) l.length cq) := (RSx.out.step (bstep hbI.out hb)).ix.cell 0; refine wp_value (st_load rfl (hm.get 2 89 (by kernel_rfl)) (by go_simp)) ⟨_, rfl, rfl, Below.refl _ _⟩
            | 4, _, ho => by
                cases ho
                rw [if_pos (wanted_none _ rfl)]
                refine wp_value (st_move rfl ((hs.keeps (by kernel_rfl)).trans rfl)) ⟨_, rfl, rfl, Below.refl _ _⟩
            | 5, _, ho => by
                cases ho
                rw [if_pos (wanted_none _ rfl)]
                have h1 := eval_getD (hm.get 3 90 (by kernel_rfl)); have h2 := eval_getD (hm.get 4 91 (by kernel_rfl)); unfold Oper.wp; simp only [execOp]; go_simp; exact ⟨_, rfl, rfl, Below.refl _ _⟩
            | 6, _, ho => by
                cases ho
                rw [if_pos (wanted_none _ rfl)]
                obtain ⟨x0, x1, x2, x3, x4⟩ := Hx2.out w hb; have h1 := eval_getD (hm.get 5 92 (by kernel_rfl)); unfold Oper.wp; simp only [execOp]; go_simp; exact ⟨_, rfl, rfl, Below.refl _ _⟩
            | 7, _, ho => by
                cases ho
                rw [if_pos (wanted_none _ rfl)]
                have ry := (RSx.out.step (bstep hbI.out hb)).box.cell; have h1 := eval_getD (show a.eval (.tmp 9) = .pointer (some ⟨g, 0, none⟩) from (hs.keeps (by kernel_rfl)).trans rfl); unfold Oper.wp; simp only [execOp]; go_simp; exact ⟨_, rfl, rfl, Below.refl _ _⟩
            | 8, _, ho => by
                cases ho
                rw [if_pos (wanted_none _ rfl)]
                have h1 := eval_getD (hm.get 6 93 (by kernel_rfl)); have h2 := eval_getD (hm.get 7 94 (by kernel_rfl)); unfold Oper.wp; simp only [execOp]; go_simp; refine (CB.out w).mono ?_; rintro e w' ⟨rfl, hb'⟩; exact ⟨_, rfl, rfl, hb'⟩
            | (n + 9), hi, _ => absurd hi (by omega)
            · have e1 : a.eval (.tmp 95) = .bool bb := by cases ho; exact hm.get 8 95 (by kernel_rfl)
              have hfr := hs.frame [87, 88, 89, 90, 91, 92, 93, 94, 95, 96] (by kernel_rfl)
              cases ho
              rw [hfr]
              simp only [List.foldl_cons, List.foldl_nil, e1]
              clear hfr hs hm e1
              generalize a.eval (.tmp 87) = u87
              generalize a.eval (.tmp 88) = u88
              generalize a.eval (.tmp 89) = u89
              generalize a.eval (.tmp 90) = u90
              generalize a.eval (.tmp 91) = u91
              generalize a.eval (.tmp 92) = u92
              generalize a.eval (.tmp 93) = u93
              generalize a.eval (.tmp 94) = u94
              generalize a.eval (.tmp 96) = u96
              unfold Oper.wp
              simp only [execOp]
              go_simp
              clear a
              have hbJ := Lib.hid (bstep hbI.out hb)
              cases bb with
              | false =>
                have hD : Hid (decR b = none) := Lib.hid (hDn.out (goR_bad HT.out (fun h => by
                  have h1 : bes2 x y = true := List.all_eq_true.1 h.2 x (List.mem_of_getElem? Hx.out)
                  rw [← Hbb.out] at h1
                  cases h1)))
                go_wp2
                refine bodyPost_ret (v := .tuple #[.pointer none, I 2]) (by simp [results, Tryz.results19, go_sem]) rfl ?_
                exact .inl ⟨hD.out, rfl, bstep B8.out hbJ.out⟩
              | true =>
                go_wp2
                go_roundw
                case rel => exact ⟨kk + 1, rfl, rfl, by go_num, Lib.hid hlt, Lib.hid (by rw [List.take_add_one, Hx.out, List.all_append, hal.out]; simp [← Hbb.out]), hbJ⟩
                case measure => simp [intOf]; omega
          · obtain rfl : kk = l.length := by have := hkk.out; omega
            rw [List.take_length] at hal
            have RSz := Lib.hid (RS8.out.step hbI.out)
            have hGY := goR_yes (n := j) HT.out ⟨Hr.out, hal.out⟩
            have Hnx : Hid (goR (N - (k + 1)) (l ++ [y]) rb5 = goR N [] b0) := Lib.hid (by rw [show N - (k + 1) = j by omega, ← hGY]; exact Hgo.out)
            have q1 : Hid (l.length + 1 ≤ maxLen) := Lib.hid (by simp only [maxLen]; omega)
            have q2 : Hid ((l.length + 1) * 56 ≤ 140737488355328) := Lib.hid (by omega)
            obtain ⟨W, hW⟩ : ∃ W, W = wr := ⟨_, rfl⟩
            subst hW
            have HO6 := Lib.hid (RSz.out.own.drew.alloc (.cells #[S y.path, I y.stage, S y.id, I y.size, I y.stamp] 32))
            have hS6 := sl_ent W.drew 32 y
            obtain ⟨A5, c5, w5, hrun, hO5, hg5, _⟩ := run_append_sl (P := Tryz.prog) _ w.heap.size 27 27 32 i0 _ 5 56 Tryz.underlying27 hi0 hi1 hi2 hi3 rfl (by decide) (.slice Aq l.length cq) l.length (ents l) HO6.out.1 _ 1 1 (ents [y]) hS6 (one_ents _) q1.out q2.out HO6.out.2.size
            have hb5 : Below w.heap.size w w5 := HO6.out.2.grown hg5 HO6.out.2.size (fun k hk => (HO6.out.1.lt k hk).1)
            have hO5' : Ow w w5 32 5 A5 (l.length + 1) c5 (ents (l ++ [y])) := ⟨by rw [ents_append]; exact hO5, hb5⟩
            have HO5 := Lib.hid hO5'
            have hix6 : Blk (W.drew.alloc (.cells #[S y.path, I y.stage, S y.id, I y.size, I y.stamp] 32)) q 29 #[.slice Aq l.length cq] := RSz.out.ix.drew.alloc _
            have hbx6 : Blk (W.drew.alloc (.cells #[S y.path, I y.stage, S y.id, I y.size, I y.stamp] 32)) g 32 #[S y.path, I y.stage, S y.id, I y.size, I y.stamp] := RSz.out.box.drew.alloc _
            have hix5 := hix6.grown hg5 (row_ne HO6.out hix6 (by decide))
            have hbx5 := hbx6.grown hg5 RSz.out.no
            have hby5 : BSl w5 w.heap.size Ab5 mb5 cb5 rb5 := ((RSz.out.bytes.step ((Below.refl _ W).drew)).step (balloc (Below.refl _ _) _)).grown HO6.out hg5 (by decide)
            have HIX5 := Lib.hid hix5
            have HBY5 := Lib.hid hby5
            have HB := Lib.hid (TJ.bel (w0 := w) (W0 := W.drew) (W1 := W.drew.alloc (.cells #[S y.path, I y.stage, S y.id, I y.size, I y.stamp] 32)) (W2 := w5) RSz.out.own.2.drew HO6.out.2 hb5)
            have HIXs := Lib.hid (TJ.all (P := fun w => Blk w q 29 #[.slice Aq l.length cq] ∧ Blk w g 32 #[S y.path, I y.stage, S y.id, I y.size, I y.stamp]) (W0 := W.drew) (W1 := W.drew.alloc (.cells #[S y.path, I y.stage, S y.id, I y.size, I y.stamp] 32)) (W2 := w5) ⟨RSz.out.ix.drew, RSz.out.box.drew⟩ ⟨hix6, hbx6⟩ ⟨hix5, hbx5⟩)
            have Hrun := Lib.hid hrun
            clear hS6 hrun hO5 hg5 hb5 HO6 hO5' hix6 hbx6 hix5 hbx5 hby5 hGY hcn' hlt
            obtain ⟨g6, hg6⟩ : ∃ g6, g6 = W.heap.size := ⟨_, rfl⟩
            have Hg6 := Lib.hid hg6
            clear hg6
            go_wp2
            clear rix
            refine wp_region_pairR (by kernel_rfl) 10 (by kernel_rfl) ?_ (fun j v => rd2Phi q l.length cq g6 c5 Aq A5 y j v W) 6 7 (by kernel_rfl) (fun w w' => w' = w) (fun _ => rfl) (TJ W.drew (W.drew.alloc (.cells #[S y.path, I y.stage, S y.id, I y.size, I y.stamp] 32)) w5) TJ.step rfl (fun i o hi hi1 hi2 ho a w hk' hk hk2 hs hm => ?_) (fun o ho a w hj hs hm => ?_) (fun o ho a w hj hs hm => ?_) (fun o ho a w hj hs hm => ?_)
            · exact dst_ltT (n := 115) (by kernel_rfl)
            · obtain ⟨hix, hbx⟩ := HIXs.out hk' w hk
              have ryb := hbx.cell
              exact match i, hi, ho, hi1, hi2 with
              | 0, _, ho, _, _ => by
                  cases ho
                  rw [if_pos (wanted_none _ rfl)]
                  refine wp_value (st_move rfl ((hs.keeps (by kernel_rfl)).trans rfl)) ⟨_, rfl, rfl, rfl⟩
              | 1, _, ho, _, _ => by
                  cases ho
                  rw [if_pos (wanted_none _ rfl)]
                  refine wp_value (st_move rfl ((hs.keeps (by kernel_rfl)).trans rfl)) ⟨_, rfl, rfl, rfl⟩
              | 2, _, ho, _, _ => by
                  cases ho
                  rw [if_pos (wanted_none _ rfl)]
                  refine wp_value (st_nil rfl (hm.get 1 98 (by kernel_rfl))) ⟨_, rfl, rfl, rfl⟩
              | 3, _, ho, _, _ => by
                  cases ho
                  rw [if_pos (wanted_none _ rfl)]
                  refine wp_value (st_field rfl (hm.get 2 99 (by kernel_rfl)) (by kernel_rfl)) ⟨_, rfl, rfl, rfl⟩
              | 4, _, ho, _, _ => by
                  cases ho
                  rw [if_pos (wanted_none _ rfl)]
                  have hx : w.cell? ⟨q, 0, none⟩ = some (.slice Aq l.length cq) := hix.cell 0; refine wp_value (st_load rfl (hm.get 3 100 (by kernel_rfl)) (by go_simp)) ⟨_, rfl, rfl, rfl⟩
              | 5, _, ho, _, _ => by
                  cases ho
                  rw [if_pos (wanted_none _ rfl)]
                  have h1 := eval_getD (show a.eval (.tmp 9) = .pointer (some ⟨g, 0, none⟩) from (hs.keeps (by kernel_rfl)).trans rfl); unfold Oper.wp; simp only [execOp]; go_simp; (first | exact ⟨_, rfl, rfl⟩ | exact ⟨_, rfl, rfl, rfl⟩)
              | 6, _, _, h, _ => absurd rfl h
              | 7, _, _, _, h => absurd rfl h
              | 8, _, ho, _, _ => by
                  cases ho
                  rw [if_pos (wanted_none _ rfl)]
                  refine wp_value (st_nil rfl (hm.get 0 97 (by kernel_rfl))) ⟨_, rfl, rfl, rfl⟩
              | 9, _, ho, _, _ => by
                  cases ho
                  rw [if_pos (wanted_none _ rfl)]
                  refine wp_value (st_field rfl (hm.get 8 105 (by kernel_rfl)) (by kernel_rfl)) ⟨_, rfl, rfl, rfl⟩
              | (n + 10), hi, _, _, _ => absurd hi (by omega)
            · cases ho
              obtain rfl : w = W.drew := hj
              have h1 := eval_getD (hm.get 5 102 (by kernel_rfl))
              unfold Oper.wp
              simp only [execOp]
              go_simp
              exact ⟨_, rfl, show Value.slice _ _ _ = Value.slice _ _ _ by rw [Hg6.out], rfl⟩
            · have hj1 : w = W.drew.alloc (.cells #[S y.path, I y.stage, S y.id, I y.size, I y.stamp] 32) := hj
              subst hj1
              obtain ⟨h1, h2, h3, h4, h5⟩ : a.eval (.tmp 101) = .slice Aq l.length cq ∧ a.eval (.tmp 103) = .slice (some ⟨g6, 0, none⟩) 1 1 ∧ o.op = .call { callee := .builtin .append, args := #[.tmp 101, .tmp 103], argTypes := #[27, 27] } ∧ o.dst = some 104 ∧ o.type = 27 := by
                cases ho
                exact ⟨hm.get 4 101 (by kernel_rfl), hm.get 6 103 (by kernel_rfl), rfl, rfl, rfl⟩
              rw [Hg6.out] at h2
              have hr := Hrun.out
              simp only [World.size_drew] at hr
              unfold Oper.wp execOp
              simp only [h3, h5, resolve, invoke, builtin, Sem.run_bind, Sem.run_pure, Result.andThen_ok, List.map_toArray, List.map_cons, List.map_nil, h1, h2, hr]
              exact ⟨_, rfl, rfl, rfl⟩
            · have e1 : a.eval (.tmp 104) = .slice A5 (l.length + 1) c5 := by cases ho; exact hm.get 7 104 (by kernel_rfl)
              have e2 : a.eval (.tmp 106) = .pointer (some ⟨q, 0, none⟩) := by cases ho; exact hm.get 9 106 (by kernel_rfl)
              have hfr := hs.frame [97, 98, 99, 100, 101, 102, 103, 104, 105, 106] (by kernel_rfl)
              cases ho
              obtain rfl : w = w5 := hj
              rw [hfr]
              simp only [List.foldl_cons, List.foldl_nil, e1, e2]
              clear hfr hs hm e1 e2
              generalize a.eval (.tmp 97) = u97
              generalize a.eval (.tmp 98) = u98
              generalize a.eval (.tmp 99) = u99
              generalize a.eval (.tmp 100) = u100
              generalize a.eval (.tmp 101) = u101
              generalize a.eval (.tmp 102) = u102
              generalize a.eval (.tmp 103) = u103
              generalize a.eval (.tmp 105) = u105
              have rix5 := HIX5.out.cell
              have fix5 := HIX5.out.frozen
              unfold Oper.wp
              simp only [execOp]
              go_simp
              clear a rix5 fix5
              have HIX9 := Lib.hid (HIX5.out.set_ 0 (.slice A5 (l.length + 1) c5))
              have HBY9 := Lib.hid (HBY5.out.set_ (p := ⟨q, 0, none⟩) HIX5.out (by decide) hq (.slice A5 (l.length + 1) c5))
              have HOW9 := Lib.hid (HO5.out.far (p := ⟨q, 0, none⟩) (row_ne HO5.out HIX5.out (by decide)) hq (.slice A5 (l.length + 1) c5))
              have hll : (l ++ [y]).length = l.length + 1 := by simp
              go_wp2
              go_roundw
              case rel => exact ⟨k + 1, l ++ [y], rb5, Ab5, mb5, cb5, A5, c5, rfl, rfl, rfl, rfl, by go_num, Lib.hid (by omega), Hnx, HBY9, Lib.hid (by rw [hll]; exact HIX9.out), Lib.hid (by rw [hll]; exact HOW9.out), Lib.hid (by rw [hll]; have h1 := hcn.out; omega)⟩
              case measure => simp [intOf]; omega
    · obtain rfl : k = N := by omega
      have hD : Hid (decR b = endR (some (l, rb))) := Lib.hid (by
        have h1 := hgo.out
        rw [Nat.sub_self] at h1
        rw [HDEC.out, ← h1]
        rfl)
      rcases rb with _ | ⟨x, rb⟩
      · obtain rfl : m = 0 := hm.symm
        clear hgo hcn hlt
        go_wp2
        refine bodyPost_ret (v := .tuple #[.pointer (some ⟨q, 0, none⟩), I 0]) (by simp [results, Tryz.results19, go_sem]) rfl ?_
        exact .inr ⟨q, l, Aq, cq, hD.out, rfl, hIX.out, hOW.out, hq⟩
      · have hm0 : 0 < m := by rw [← hm]; simp
        clear hgo hcn hlt hm
        go_wp2
        refine bodyPost_ret (v := .tuple #[.pointer none, I 2]) (by simp [results, Tryz.results19, go_sem]) rfl ?_
        exact .inl ⟨hD.out, rfl, hOW.out.2⟩
end Go.Proofs.YtjcelelgebohkaaGreatDoor

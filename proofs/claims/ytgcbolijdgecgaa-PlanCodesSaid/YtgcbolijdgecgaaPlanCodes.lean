/-
  dolmenlaw21.PlanCodes returns true. Conditions: the plan's steps and the bytes read as lists, within the form's own reach.
-/
import Derived.Test.YtgcbolijdgecgaaPlanUni
namespace Go.Proofs.Ytgcbolijdgecgaa
open Go.RowKit

abbrev plCells (p : Pl) (A : Option Addr) (n c : Nat) : Array Value := #[I p.kind, .slice A n c, I p.at_, S p.orig, S p.who, I p.stamp]

theorem encL_len {p : Pl} (h : PlanOk p) : (encL p).length ≤ 200000 := by
  have h' := h
  rw [nat_of h] at h'
  obtain ⟨⟨_, hn, _, hat, ho, hw, _, hst⟩, _, hk, hs⟩ := h'
  simp only at hn hat ho hw hst hk hs
  rw [encL, if_pos h, encP]
  have k1 := putNum_len_le (n := p.kind.toNat) (by unfold top62; omega)
  have k2 := putNum_len_le (n := p.steps.length) (by unfold top62; omega)
  have k3 := putNum_len_le (n := p.at_.toNat) (by unfold top62; omega)
  have k4 := putNum_len_le (n := p.who.length) (by unfold top62; omega)
  have k5 := putNum_len_le (n := p.stamp.toNat) (by unfold top62; omega)
  have k6 := flatten_len hs p.steps.length
  rw [List.take_length] at k6
  simp only [List.length_append]
  omega

/-- what lies in memory when all has been asked -/
structure Bnd (w : World) (P X Y Q R : Nat) (p d x : Pl) (A AX AY AQ AR : Option Addr) (n nX nQ c cX cY cQ cR : Nat) : Prop where
  hP : Blk w P 24 (plCells p A n c)
  hX : Blk w X 26 (plCells d AX nX cX)
  hY : Blk w Y 24 (plCells d AY nX cY)
  hQ : Blk w Q 26 (plCells x AQ nQ cQ)
  hR : Blk w R 24 (plCells x AR nQ cR)
  sP : Sl w 1 A n (strs p.steps)
  sX : Sl w 1 AX nX (strs d.steps)
  sY : Sl w 1 AY nX (strs d.steps)
  sQ : Sl w 1 AQ nQ (strs x.steps)
  sR : Sl w 1 AR nQ (strs x.steps)

theorem Bnd.step {w w' : World} {P X Y Q R : Nat} {p d x : Pl} {A AX AY AQ AR : Option Addr} {n nX nQ c cX cY cQ cR : Nat} (h : Bnd w P X Y Q R p d x A AX AY AQ AR n nX nQ c cX cY cQ cR) (hb : Below w.heap.size w w') : Bnd w' P X Y Q R p d x A AX AY AQ AR n nX nQ c cX cY cQ cR :=
  ⟨h.hP.step hb, h.hX.step hb, h.hY.step hb, h.hQ.step hb, h.hR.step hb, h.sP.below hb, h.sX.below hb, h.sY.below hb, h.sQ.below hb, h.sR.below hb⟩

set_option maxHeartbeats 4000000 in
set_option maxRecDepth 100000 in
theorem planCodes_any (p : Pl) (A : Option Addr) (n c : Nat) (B : Option Addr) (nb cb : Nat) (b : List UInt8) (w : World) (hA : Sl w 1 A n (strs p.steps)) (hB : Sl w 1 B nb (u8s b)) (hc : nb ≤ cb) (hn : nb ≤ 140737488351232) (hnn : n ≤ 9223372036854775807) :
    Calls Try.prog 4 #[plOf p A n c, .slice B nb cb] w fun e w' => e = .returned (.bool true) ∧ Below w.heap.size w w' := by
  have HA := Lib.hid hA
  have HBb := Lib.hid hB
  clear hA hB
  obtain ⟨l, hl⟩ : ∃ l, l = encL p := ⟨_, rfl⟩
  obtain ⟨ev, hev⟩ : ∃ ev, ev = encE p := ⟨_, rfl⟩
  obtain ⟨d, hd⟩ : ∃ d, d = decP b := ⟨_, rfl⟩
  obtain ⟨gv, hgv⟩ : ∃ gv, gv = decE b := ⟨_, rfl⟩
  obtain ⟨x, hx⟩ : ∃ x, x = nextP p := ⟨_, rfl⟩
  obtain ⟨s, hs⟩ : ∃ s, s = nextS p := ⟨_, rfl⟩
  obtain ⟨mo, hmo⟩ : ∃ mo, mo = nextB p := ⟨_, rfl⟩
  have Hl := Lib.hid hl
  have Hev := Lib.hid hev
  have Hd := Lib.hid hd
  have Hgv := Lib.hid hgv
  have Hx := Lib.hid hx
  have Hs := Lib.hid hs
  have Hmo := Lib.hid hmo
  clear hl hev hd hgv hx hs hmo
  go_enter Try.func4, Try.ntmps4
  go_wp2_with fail
  refine (awake_any _).mono ?_
  rintro e w1 ⟨rfl, b1⟩
  have HP1 := (Blk.new w 24 (plCells p A n c)).step b1
  have q1 := Lib.hid (bstep (balloc (Below.refl _ w) _) b1)
  have r1 := HP1.cell
  clear b1
  go_wp2_with fail
  refine (mine_any _ _ _ _ _ _ _ _ _).mono ?_
  rintro e w2 ⟨rfl, b2⟩
  have HP2 := HP1.step b2
  have q2 := Lib.hid (bstep q1.out b2)
  clear b2 r1 HP1 q1
  go_wp2_with fail
  have cE := encode_uni p A n c w2 (HA.out.below q2.out)
  rw [← Hl.out, ← Hev.out] at cE
  refine cE.mono ?_
  clear cE
  rintro e w3 ⟨A3, m3, c3, rfl, s3, hc3, b3⟩
  have HP3 := HP2.step b3
  have q3 := Lib.hid (bstep q2.out b3)
  have r3 := HP3.cell
  clear b3 HP2 q2
  go_wp2_with fail
  have cE := refEncode_uni p A n c w3 (HA.out.below q3.out)
  rw [← Hl.out, ← Hev.out] at cE
  refine cE.mono ?_
  clear cE
  rintro e w4 ⟨A4, m4, c4, rfl, s4, hc4, b4⟩
  have HP4 := HP3.step b4
  have q4 := Lib.hid (bstep q3.out b4)
  have s3' := Lib.hid (s3.below b4)
  have s4' := Lib.hid s4
  clear b4 HP3 q3 r3 s3 s4
  go_wp2_with fail
  have cD := decode_uni B nb cb b w4 (HBb.out.below q4.out) hc hn
  rw [← Hd.out, ← Hgv.out] at cD
  refine cD.mono ?_
  clear cD
  rintro e w5 ⟨AX, nX, cX, rfl, sX, hnX, b5⟩
  have HP5 := Lib.hid (HP4.step b5)
  have q5 := Lib.hid (bstep q4.out b5)
  have s35 := Lib.hid (s3'.out.below b5)
  have s45 := Lib.hid (s4'.out.below b5)
  have sX5 := Lib.hid sX
  clear b5 HP4 q4 s3' s4' sX
  go_wp2_with fail
  have cD := refDecode_uni B nb cb b (w5.alloc (.cells (plCells d AX nX cX) 26)) ((HBb.out.below q5.out).alloc _) hc hn
  rw [← Hd.out, ← Hgv.out] at cD
  refine cD.mono ?_
  clear cD
  rintro e w6 ⟨AY, nY, cY, rfl, sY, hnY, b6⟩
  have eY : nX = nY := (strs_len sX5.out).symm.trans (strs_len sY)
  subst eY
  have hP6 := (HP5.out.alloc (.cells (plCells d AX nX cX) 26)).step b6
  have HP6 := Lib.hid hP6
  have HX6 := Lib.hid ((Blk.new w5 26 (plCells d AX nX cX)).step b6)
  have q6 := Lib.hid (bstep (balloc q5.out _) b6)
  have s36 := Lib.hid ((s35.out.alloc _).below b6)
  have s46 := Lib.hid ((s45.out.alloc _).below b6)
  have sX6 := Lib.hid ((sX5.out.alloc _).below b6)
  have sY6 := Lib.hid sY
  have r6 := hP6.cell
  have l6 := hP6.lt
  clear b6 HP5 q5 s35 s45 sX5 sY hP6
  go_wp2_with fail
  refine (mine_any _ _ _ _ _ _ _ _ _).mono ?_
  rintro e w7 ⟨rfl, b7⟩
  have HP7 := Lib.hid ((HP6.out.alloc (.cells (plCells d AY nX cY) 24)).step b7)
  have HX7 := Lib.hid ((HX6.out.alloc (.cells (plCells d AY nX cY) 24)).step b7)
  have HY7 := Lib.hid ((Blk.new w6 24 (plCells d AY nX cY)).step b7)
  have q7 := Lib.hid (bstep (balloc q6.out _) b7)
  have s37 := Lib.hid ((s36.out.alloc _).below b7)
  have s47 := Lib.hid ((s46.out.alloc _).below b7)
  have sX7 := Lib.hid ((sX6.out.alloc _).below b7)
  have sY7 := Lib.hid ((sY6.out.alloc _).below b7)
  clear b7 HP6 HX6 q6 s36 s46 sX6 sY6 r6 l6
  go_wp2_with fail
  have cN := next_uni p A n c w7 (HA.out.below q7.out)
  rw [← Hx.out, ← Hs.out, ← Hmo.out] at cN
  refine cN.mono ?_
  clear cN
  rintro e w8 ⟨AQ, nQ, cQ, rfl, sQ, hnQ, b8⟩
  have hP8 := HP7.out.step b8
  have HP8 := Lib.hid hP8
  have HX8 := Lib.hid (HX7.out.step b8)
  have HY8 := Lib.hid (HY7.out.step b8)
  have q8 := Lib.hid (bstep q7.out b8)
  have s38 := Lib.hid (s37.out.below b8)
  have s48 := Lib.hid (s47.out.below b8)
  have sX8 := Lib.hid (sX7.out.below b8)
  have sY8 := Lib.hid (sY7.out.below b8)
  have sQ8 := Lib.hid sQ
  have r8 := hP8.cell
  have l8 := hP8.lt
  clear b8 HP7 HX7 HY7 q7 s37 s47 sX7 sY7 sQ hP8
  go_wp2_with fail
  have cN := refNext_uni p A n c (w8.alloc (.cells (plCells x AQ nQ cQ) 26)) ((HA.out.below q8.out).alloc _)
  rw [← Hx.out, ← Hs.out, ← Hmo.out] at cN
  refine cN.mono ?_
  clear cN
  rintro e w9 ⟨AR, nR, cR, rfl, sR, hnR, b9⟩
  have eR : nQ = nR := (strs_len sQ8.out).symm.trans (strs_len sR)
  subst eR
  have hBd := Lib.hid (show Bnd (w9.alloc (.cells (plCells x AR nQ cR) 24)) w.heap.size w5.heap.size w6.heap.size w8.heap.size w9.heap.size p d x A AX AY AQ AR n nX nQ c cX cY cQ cR from
    ⟨(((HP8.out.alloc _).step b9).alloc _), ((HX8.out.alloc _).step b9).alloc _, ((HY8.out.alloc _).step b9).alloc _, ((Blk.new w8 _ _).step b9).alloc _, Blk.new w9 _ _,
      (((HA.out.below q8.out).alloc _).below b9).alloc _, ((sX8.out.alloc _).below b9).alloc _, ((sY8.out.alloc _).below b9).alloc _, ((sQ8.out.alloc _).below b9).alloc _, sR.alloc _⟩)
  have q9 := Lib.hid (balloc (bstep (balloc q8.out (.cells (plCells x AQ nQ cQ) 26)) b9) (.cells (plCells x AR nQ cR) 24))
  have s39 := Lib.hid (((s38.out.alloc (.cells (plCells x AQ nQ cQ) 26)).below b9).alloc (.cells (plCells x AR nQ cR) 24))
  have s49 := Lib.hid (((s48.out.alloc (.cells (plCells x AQ nQ cQ) 26)).below b9).alloc (.cells (plCells x AR nQ cR) 24))
  clear b9 HP8 HX8 HY8 q8 s38 s48 sX8 sY8 sQ8 sR r8 l8
  go_wp2_with fail
  obtain ⟨W, hW⟩ : ∃ W, W = w9.alloc (.cells (plCells x AR nQ cR) 24) := ⟨_, rfl⟩
  rw [← hW] at hBd q9 s39 s49
  have hW' : w9.alloc (Obj.cells #[Value.int IntKind.i64 x.kind, Value.slice AR nQ cR, Value.int IntKind.i64 x.at_, Value.string ⟨x.orig.toArray⟩, Value.string ⟨x.who.toArray⟩, Value.int IntKind.i64 x.stamp] 24) = W := hW.symm
  rw [hW']
  clear hW hW'
  have eqb : decide (l = l) = true := decide_eq_true rfl
  have hBdd := Lib.hid (hBd.out.step (Below.refl _ W).drew)
  have hcheck := Lib.hid (show ∀ W', Sl W' 1 A n (strs p.steps) → Calls Try.prog 7 #[plV p.kind A n c p.at_ p.orig p.who p.stamp] W' fun e w' => e = .returned (I ev) ∧ Below W'.heap.size W' w' from fun W' h => by rw [Hev.out]; exact check_uni p A n c W' h)
  have kP := hBd.out.hP.cell
  have kX := hBd.out.hX.cell
  have kY := hBd.out.hY.cell
  have kQ := hBd.out.hQ.cell
  have kR := hBd.out.hR.cell
  go_region_held3 (fun w' => (∀ i, w'.cell? ⟨w.heap.size, i, none⟩ = (plCells p A n c)[i]?) ∧ (∀ i, w'.cell? ⟨w5.heap.size, i, none⟩ = (plCells d AX nX cX)[i]?) ∧ (∀ i, w'.cell? ⟨w6.heap.size, i, none⟩ = (plCells d AY nX cY)[i]?) ∧ (∀ i, w'.cell? ⟨w8.heap.size, i, none⟩ = (plCells x AQ nQ cQ)[i]?) ∧ (∀ i, w'.cell? ⟨w9.heap.size, i, none⟩ = (plCells x AR nQ cR)[i]?))
    (first | (exact ⟨kP, kX, kY, kQ, kR⟩) | go_keep)
    (first
      | (go_at_call 15; refine (sameB_any A3 A4 m3 m4 c3 c4 l l _ s39.out.drew s49.out.drew).mono ?_; rintro e w10 ⟨rfl, rfl⟩)
      | (go_at_call 17; ((with_reducible refine (theirs_any d.kind AX nX cX d.at_ d.orig d.who d.stamp _).mono ?_); rintro e w11 ⟨rfl, hb11⟩); have hB1 := Lib.hid (hBdd.out.step hb11); have kP := hB1.out.hP.cell; have kX := hB1.out.hX.cell; have kY := hB1.out.hY.cell; have kQ := hB1.out.hQ.cell; have kR := hB1.out.hR.cell; have q11 := Lib.hid (bstep q9.out.drew hb11); have q911 := Lib.hid (show Below W.drew.heap.size W.drew w11 from bstep (Below.refl _ W.drew) hb11); clear hb11)
      | (go_at_call 16; ((with_reducible refine (refSame_eq d.kind AX AY nX cX cY d.at_ d.orig d.who d.stamp d.steps _ hB1.out.sX hB1.out.sY (by omega)).mono ?_); rintro e w12 ⟨rfl, hb12⟩); have hB2 := Lib.hid (hB1.out.step hb12); have kP := hB2.out.hP.cell; have kX := hB2.out.hX.cell; have kY := hB2.out.hY.cell; have kQ := hB2.out.hQ.cell; have kR := hB2.out.hR.cell; have q12 := Lib.hid (bstep q11.out hb12); have q912 := Lib.hid (show Below W.drew.heap.size W.drew w12 from bstep q911.out hb12); clear hb12)
      | (go_at_call 17; ((with_reducible refine (theirs_any x.kind AQ nQ cQ x.at_ x.orig x.who x.stamp _).mono ?_); rintro e w13 ⟨rfl, hb13⟩); have hB3 := Lib.hid (hB2.out.step hb13); have kP := hB3.out.hP.cell; have kX := hB3.out.hX.cell; have kY := hB3.out.hY.cell; have kQ := hB3.out.hQ.cell; have kR := hB3.out.hR.cell; have q13 := Lib.hid (bstep q12.out hb13); have q913 := Lib.hid (show Below W.drew.heap.size W.drew w13 from bstep q912.out hb13); clear hb13)
      | (go_at_call 16; ((with_reducible refine (refSame_eq x.kind AQ AR nQ cQ cR x.at_ x.orig x.who x.stamp x.steps _ hB3.out.sQ hB3.out.sR (by omega)).mono ?_); rintro e w14 ⟨rfl, hb14⟩); have hB4 := Lib.hid (hB3.out.step hb14); have kP := hB4.out.hP.cell; have kX := hB4.out.hX.cell; have kY := hB4.out.hY.cell; have kQ := hB4.out.hQ.cell; have kR := hB4.out.hR.cell; have q14 := Lib.hid (bstep q13.out hb14); have q914 := Lib.hid (show Below W.drew.heap.size W.drew w14 from bstep q913.out hb14); clear hb14)
      | (go_at_call 6; ((with_reducible refine (mine_any p.kind A n c p.at_ p.orig p.who p.stamp _).mono ?_); rintro e w15 ⟨rfl, hb15⟩); have hB5 := Lib.hid (hB4.out.step hb15); have kP := hB5.out.hP.cell; have kX := hB5.out.hX.cell; have kY := hB5.out.hY.cell; have kQ := hB5.out.hQ.cell; have kR := hB5.out.hR.cell; have q15 := Lib.hid (bstep q14.out hb15); have q915 := Lib.hid (show Below W.drew.heap.size W.drew w15 from bstep q914.out hb15); clear hb15)
      | (go_at_call 7; ((with_reducible refine (hcheck.out _ hB5.out.sP).mono ?_); rintro e w16 ⟨rfl, hb16⟩); have hB6 := Lib.hid (hB5.out.step hb16); have kP := hB6.out.hP.cell; have kX := hB6.out.hX.cell; have kY := hB6.out.hY.cell; have kQ := hB6.out.hQ.cell; have kR := hB6.out.hR.cell; have q16 := Lib.hid (bstep q15.out hb16); have q916 := Lib.hid (show Below W.drew.heap.size W.drew w16 from bstep q915.out hb16); clear hb16))
  have s316 := Lib.hid (s39.out.drew.below q916.out)
  clear kP kX kY kQ kR hB1 hB2 hB3 hB4 hB5 q11 q12 q13 q14 q15 hBd hBdd hcheck eqb s39 s49
  by_cases hok : PlanOk p
  · have hev0 : ev = 0 := by rw [Hev.out, encE, if_pos hok]
    have e1 : decP l = p := by rw [Hl.out]; exact (dec_enc hok).1
    have e2 : decE l = 0 := by rw [Hl.out]; exact (dec_enc hok).2
    have hlen : m3 ≤ 140737488351232 := by
      have h1 := u8s_len s316.out
      have h2 := encL_len hok
      rw [← Hl.out] at h2
      omega
    have cD := decode_uni A3 m3 c3 l w16 s316.out hc3 hlen
    rw [e1, e2] at cD
    have CD := Lib.hid cD
    have HP16 := Lib.hid hB6.out.hP
    have sP16 := Lib.hid hB6.out.sP
    clear cD e1 e2 hB6
    subst hev0
    go_wp2_with fail
    refine CD.out.mono ?_
    rintro e w17 ⟨AZ, nZ, cZ, rfl, sZ, hnZ, b17⟩
    have eZ : n = nZ := (strs_len sP16.out).symm.trans (strs_len sZ)
    subst eZ
    have hP18 := (HP16.out.step b17).alloc (.cells (plCells p AZ n cZ) 26)
    have hZ18 := Blk.new w17 26 (plCells p AZ n cZ)
    have sP18 := Lib.hid ((sP16.out.below b17).alloc (.cells (plCells p AZ n cZ) 26))
    have sZ18 := Lib.hid (sZ.alloc (.cells (plCells p AZ n cZ) 26))
    have q18 := Lib.hid (balloc (bstep q16.out b17) (.cells (plCells p AZ n cZ) 26))
    have HP18 := Lib.hid hP18
    have HZ18 := Lib.hid hZ18
    have kP := hP18.cell
    have kZ := hZ18.cell
    have l18 := (HP16.out.step b17).lt
    clear b17 sZ hP18 hZ18 HP16 sP16
    go_wp2_with fail
    go_region_held3 (fun w' => (∀ i, w'.cell? ⟨w.heap.size, i, none⟩ = (plCells p A n c)[i]?) ∧ (∀ i, w'.cell? ⟨w17.heap.size, i, none⟩ = (plCells p AZ n cZ)[i]?))
      (first | (exact ⟨kP, kZ⟩) | go_keep)
      (first
        | (go_at_call 17; ((with_reducible refine (theirs_any p.kind AZ n cZ p.at_ p.orig p.who p.stamp _).mono ?_); rintro e w19 ⟨rfl, hb19⟩); have kP := (HP18.out.drew.step hb19).cell; have kZ := (HZ18.out.drew.step hb19).cell; have sP19 := Lib.hid (sP18.out.drew.below hb19); have sZ19 := Lib.hid (sZ18.out.drew.below hb19); have q19 := Lib.hid (bstep q18.out.drew hb19); have HP19 := Lib.hid (HP18.out.drew.step hb19); have HZ19 := Lib.hid (HZ18.out.drew.step hb19); clear hb19)
        | (go_at_call 16; ((with_reducible refine (refSame_eq p.kind AZ A n cZ c p.at_ p.orig p.who p.stamp p.steps _ sZ19.out sP19.out (by omega)).mono ?_); rintro e w20 ⟨rfl, hb20⟩); have kP := (HP19.out.step hb20).cell; have kZ := (HZ19.out.step hb20).cell; have q20 := Lib.hid (bstep q19.out hb20); clear hb20))
    go_wp2
    go_ret
    exact ⟨rfl, q20.out⟩
  · have hev1 : ev = 1 := by rw [Hev.out, encE, if_neg hok]
    subst hev1
    go_wp2
    go_ret
    exact ⟨rfl, q16.out⟩
end Go.Proofs.Ytgcbolijdgecgaa

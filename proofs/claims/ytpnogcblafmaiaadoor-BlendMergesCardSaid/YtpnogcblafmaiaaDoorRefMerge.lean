/-
  dolmenref17.Merge makes what the plain law says. Conditions: slices read as lists, of few bytes.
-/
import Derived.Test.YtpnogcblafmaiaaDoorRefRegions
import Derived.Test.YtpnogcblafmaiaaDoorRefDiff
namespace Go.Proofs.YtpnogcblafmaiaaDoor
open Go.RowKit
open LineLaw (Hk)
open BlendLaw (Rg emit takenOf hasOf FitS Apart fromI toI sw)

theorem sw_len : ∀ (n : Nat) (h0 h1 : List Hk), (sw n h0 h1).length ≤ n
  | 0, _, _ => Nat.le_refl _
  | n + 1, h0, h1 => by
    cases hf : BlendLaw.firstHk h0 h1 with
    | none => obtain ⟨rfl, rfl⟩ := BlendLaw.first_none hf; rw [BlendLaw.sw_none]; simp
    | some h => rw [BlendLaw.sw_some hf]; have := sw_len n (BlendLaw.grow h.a1 h0 h1).2.1 (BlendLaw.grow h.a1 h0 h1).2.2; simp; omega
/-- lines that are few and short -/
def Tiny (l : List (List UInt8)) : Prop := l.length ≤ 600 ∧ ∀ s ∈ l, s.length ≤ 600 ∧ s ≠ []
/-- what holds ahead of region i -/
structure EM (x l0 l1 : List (List UInt8)) (H0 H1 : List Hk) (C : List Rg) (i at_ : Nat) (out : List (List UInt8)) (cf : Bool) : Prop where
  res : emit x l0 l1 H0 H1 0 C = (out ++ (emit x l0 l1 H0 H1 at_ (C.drop i)).1, cf || (emit x l0 l1 H0 H1 at_ (C.drop i)).2)
  few : out.length ≤ i * 4000
  short : ∀ s ∈ out, s.length ≤ 700
  le : at_ ≤ x.length
  next : ∀ r, C[i]? = some r → at_ ≤ r.lo
section
variable {x l0 l1 : List (List UInt8)} {H0 H1 : List Hk} {C : List Rg} {i at_ : Nat} {out : List (List UInt8)} {cf : Bool}
theorem EM.start : EM x l0 l1 H0 H1 C 0 0 [] false := ⟨by simp, Nat.le_refl _, (fun s hs => by cases hs), Nat.zero_le _, fun _ _ => Nat.zero_le _⟩
theorem EM.step (h : EM x l0 l1 H0 H1 C i at_ out cf) (hC : Apart C) {r : Rg} (hr : C[i]? = some r) (hx : Tiny x) (h0 : Tiny l0) (h1 : Tiny l1) (hhi : r.hi ≤ x.length) :
    EM x l0 l1 H0 H1 C (i + 1) r.hi (out ++ (x.drop at_).take (r.lo - at_) ++ (takenOf l0 l1 H0 H1 r).1) (cf || (takenOf l0 l1 H0 H1 r).2) := by
  obtain ⟨hi, he⟩ := List.getElem?_eq_some_iff.1 hr
  have hd : C.drop i = r :: C.drop (i + 1) := by rw [List.drop_eq_getElem_cons hi, he]
  refine ⟨?_, ?_, fun s hs => ?_, hhi, fun r' hr' => ?_⟩
  · rw [h.res, hd]
    simp only [emit, List.append_assoc, Bool.or_assoc]
  · have h2 := BlendLaw.taken_len r.t0 r.t1 (hasOf l0 H0 r) (hasOf l1 H1 r)
    have h3 := BlendLaw.part_len l0 (fromI H0 r.lo).toNat (toI H0 r.hi).toNat
    have h4 := BlendLaw.part_len l1 (fromI H1 r.lo).toNat (toI H1 r.hi).toNat
    have h5 : ((x.drop at_).take (r.lo - at_)).length ≤ x.length := by simp; omega
    have h6 := hx.1
    have h7 := h0.1
    have h8 := h1.1
    have h9 := h.few
    simp only [List.length_append, takenOf, hasOf] at h2 h3 h4 ⊢
    omega
  · rcases List.mem_append.1 hs with hs | hs
    · rcases List.mem_append.1 hs with hs | hs
      · exact h.short s hs
      · have := (hx.2 s (List.mem_of_mem_drop (List.mem_of_mem_take hs))).1; omega
    · have := BlendLaw.taken_mem (M := 600) (by omega) (fun t ht => (h0.2 t (BlendLaw.part_mem ht)).1) (fun t ht => (h1.2 t (BlendLaw.part_mem ht)).1) hs
      omega
  · obtain ⟨hi', he'⟩ := List.getElem?_eq_some_iff.1 hr'
    have h1 := List.pairwise_iff_getElem.1 hC.1 i (i + 1) hi hi' (by omega)
    rw [he, he'] at h1
    omega
theorem EM.done (h : EM x l0 l1 H0 H1 C i at_ out cf) (hi : C.length ≤ i) : emit x l0 l1 H0 H1 0 C = (out ++ x.drop at_, cf) := by
  rw [h.res, List.drop_eq_nil_of_le hi]
  simp [emit]
end
theorem tiny_lns (b : List UInt8) (hb : b.length ≤ 600) : Tiny (LinesLaw.lns b) := by
  refine ⟨by have := LinesLaw.lns_len b; omega, fun s hs => ⟨by have := BlendLaw.line_len hs; omega, LinesLaw.lns_mem b s hs⟩⟩
theorem few_diff (x l : List (List UInt8)) (hx : x.length ≤ 600) (hl : l.length ≤ 600) : Few (LineLaw.diff x l) := by
  intro h hh
  have h1 := LineLaw.ok_mem (LineLaw.diff_ok x l) h hh
  omega

set_option maxHeartbeats 8000000 in
set_option maxRecDepth 100000 in
theorem refMerge_any (Ab : Option Addr) (nb cb : Nat) (b : List UInt8) (Ao : Option Addr) (no co : Nat) (o : List UInt8) (At : Option Addr) (nt ct : Nat) (t : List UInt8) (w : World) (hAb : Sl w 1 Ab nb (u8s b)) (hAo : Sl w 1 Ao no (u8s o)) (hAt : Sl w 1 At nt (u8s t))
    (hcb : nb ≤ cb) (hco : no ≤ co) (hct : nt ≤ ct) (hnb : nb ≤ 600) (hno : no ≤ 600) (hnt : nt ≤ 600) :
    Calls Tryd.prog 30 #[.slice Ab nb cb, .slice Ao no co, .slice At nt ct] w fun e w' => ∃ A n c, e = .returned (.tuple #[.slice A n c, .bool (BlendLaw.merge b o t).2]) ∧ Sl w' 1 A n (u8s (BlendLaw.merge b o t).1) ∧ Below w.heap.size w w' := by
  obtain ⟨i0, hi0, hz0, hz1, hz2⟩ := info_parts Tryd.infoStr
  have tb := tiny_lns b (by have : b.length = nb := by simpa using hAb.len
                            omega)
  have to := tiny_lns o (by have : o.length = no := by simpa using hAo.len
                            omega)
  have tt := tiny_lns t (by have : t.length = nt := by simpa using hAt.len
                            omega)
  have wlo := BlendLaw.wl_lns o
  have wlt := BlendLaw.wl_lns t
  obtain ⟨x, hx⟩ : ∃ x, LinesLaw.lns b = x := ⟨_, rfl⟩
  obtain ⟨l0, hl0⟩ : ∃ x, LinesLaw.lns o = x := ⟨_, rfl⟩
  obtain ⟨l1, hl1⟩ : ∃ x, LinesLaw.lns t = x := ⟨_, rfl⟩
  rw [hx] at tb
  rw [hl0] at to wlo
  rw [hl1] at tt wlt
  obtain ⟨C, hC⟩ : ∃ C, sw ((LineLaw.diff x l0).length + (LineLaw.diff x l1).length) (LineLaw.diff x l0) (LineLaw.diff x l1) = C := ⟨_, rfl⟩
  have hap := BlendLaw.diff_parts_sw x l0 l1
  have hem := BlendLaw.mergeL_emit x l0 l1
  have hCl := sw_len ((LineLaw.diff x l0).length + (LineLaw.diff x l1).length) (LineLaw.diff x l0) (LineLaw.diff x l1)
  rw [hC] at hap hem hCl
  have hd0 := BlendLaw.diff_few x l0
  have hd1 := BlendLaw.diff_few x l1
  have f0 := few_diff x l0 tb.1 to.1
  have f1 := few_diff x l1 tb.1 tt.1
  have htx := tb.1
  have ht0 := to.1
  have ht1 := tt.1
  obtain ⟨H0, hH0⟩ : ∃ H, LineLaw.diff x l0 = H := ⟨_, rfl⟩
  obtain ⟨H1, hH1⟩ : ∃ H, LineLaw.diff x l1 = H := ⟨_, rfl⟩
  rw [hH0, hH1] at hap hem hCl
  rw [hH0] at hd0 f0
  rw [hH1] at hd1 f1
  have hCl2 : C.length ≤ 2400 := by omega
  have hm : BlendLaw.merge b o t = ((emit x l0 l1 H0 H1 0 C).1.flatten, (emit x l0 l1 H0 H1 0 C).2) := by unfold BlendLaw.merge; rw [hx, hl0, hl1, hem.1]
  rw [hm]
  have HAb := Lib.hid hAb
  have HAo := Lib.hid hAo
  have HAt := Lib.hid hAt
  have Hx := Lib.hid hx
  have Hl0 := Lib.hid hl0
  have Hl1 := Lib.hid hl1
  have Tb := Lib.hid tb
  have To := Lib.hid to
  have Tt := Lib.hid tt
  have Wo := Lib.hid wlo
  have Wt := Lib.hid wlt
  have Hap := Lib.hid hap
  have Hfit := Lib.hid hem.2
  have F0 := Lib.hid f0
  have F1 := Lib.hid f1
  have HH0 := Lib.hid hH0
  have HH1 := Lib.hid hH1
  have k0b : H0.length ≤ 10000 := by omega
  have k1b : H1.length ≤ 10000 := by omega
  clear hAb hAo hAt hx hl0 hl1 tb to tt wlo wlt hC hap hem hCl hd0 hd1 f0 f1 hH0 hH1 hm
  go_enter Tryd.func30, Tryd.ntmps30
  go_wp2_with fail
  refine (refSplit_any Ab nb cb b _ HAb.out hcb (by omega)).mono ?_
  rintro e w1 ⟨Ax, nx, cx, rfl, hnx, hO⟩
  rw [Hx.out] at hO
  have B1 := Lib.hid hO.2
  have SX1 := Lib.hid hO.sl
  have hcx := hO.cap
  clear hO
  go_wp2_with fail
  refine (refSplit_any Ao no co o _ (HAo.out.below B1.out) hco (by omega)).mono ?_
  rintro e w2 ⟨A0, n0, c0, rfl, hn0, hO⟩
  rw [Hl0.out] at hO
  have B2 := Lib.hid (bstep B1.out hO.2)
  have SX2 := Lib.hid (SX1.out.below hO.2)
  have S02 := Lib.hid hO.sl
  have hc0 := hO.cap
  clear hO B1 SX1
  go_wp2_with fail
  refine (refSplit_any At nt ct t _ (HAt.out.below B2.out) hct (by omega)).mono ?_
  rintro e w3 ⟨A1, n1, c1, rfl, hn1, hO⟩
  rw [Hl1.out] at hO
  have B3 := Lib.hid (bstep B2.out hO.2)
  have SX3 := Lib.hid (SX2.out.below hO.2)
  have S03 := Lib.hid (S02.out.below hO.2)
  have S13 := Lib.hid hO.sl
  have hc1 := hO.cap
  clear hO B2 SX2 S02
  go_wp2
  have hb4 := balloc (Below.refl _ w3) (.cells #[.slice A0 n0 c0, .slice A1 n1 c1] 22)
  have hL4 := Blk.new w3 22 #[.slice A0 n0 c0, .slice A1 n1 c1]
  generalize w3.alloc (.cells #[.slice A0 n0 c0, .slice A1 n1 c1] 22) = w4 at *
  have B4 := Lib.hid (bstep B3.out hb4)
  have SX4 := Lib.hid (SX3.out.below hb4)
  have S04 := Lib.hid (S03.out.below hb4)
  have S14 := Lib.hid (S13.out.below hb4)
  have HL4 := Lib.hid hL4
  have r0 := hL4.cell 0
  have r1 := hL4.cell 1
  have zl := hL4.lt
  simp at r0 r1
  clear hb4 hL4 B3 SX3 S03 S13
  generalize w3.heap.size = gl at *
  have bz : Below w4.heap.size w4 w4 := Below.refl _ _
  have bd : Below w4.heap.size w4 w4.drew := bz.drew
  go_region_held3 (fun w' => w'.cell? ⟨gl, 0, none⟩ = some (.slice A0 n0 c0) ∧ w'.cell? ⟨gl, 1, none⟩ = some (.slice A1 n1 c1))
    (first | (exact ⟨r6a, r6⟩) | (exact ⟨r5a, r5⟩) | go_keep)
    (first
    | (go_simp; go_at_call 18; (with_reducible refine (refDiff_any Ax A0 nx n0 cx c0 x l0 _ (SX4.out.below bd) (S04.out.below bd) hcx.1 hc0.1 (by omega) (by omega)).mono ?_); rintro e5 w5 ⟨AH0, k0, d0, rfl, hO5⟩; have q5 : Below w4.heap.size w4 w5 := bstep bd hO5.2; have r5a := ((HL4.out.step q5).cell 0); have r5 := ((HL4.out.step q5).cell 1); simp at r5a r5)
    | (go_simp; go_at_call 18; (with_reducible refine (refDiff_any Ax A1 nx n1 cx c1 x l1 _ (SX4.out.below q5) (S14.out.below q5) hcx.1 hc1.1 (by omega) (by omega)).mono ?_); rintro e6 w6 ⟨AH1, k1, d1, rfl, hO6⟩; have q6 : Below w4.heap.size w4 w6 := bstep q5 hO6.2; have r6a := ((HL4.out.step q6).cell 0); have r6 := ((HL4.out.step q6).cell 1); simp at r6a r6))
  all_goals
    rw [HH0.out] at hO5
    rw [HH1.out] at hO6
    have e0 := hks_count hO5.sl
    have e1 := hks_count hO6.sl
    have b7 := balloc (Below.refl _ w6) (.cells #[.slice AH0 k0 d0, .slice AH1 k1 d1] 25)
    have hG7 := Blk.new w6 25 #[.slice AH0 k0 d0, .slice AH1 k1 d1]
    have s0 := (hO5.sl.below hO6.2).below b7
    have s1 := hO6.sl.below b7
    have hb7 := bstep q6 b7
    have hR := Lib.hid (regions_any w6.heap.size AH0 k0 d0 H0 AH1 k1 d1 H1 C _ hG7 s0 s1 (by omega) (by omega) Hap.out.1 Hap.out.2)
    have HB7 := Lib.hid (bstep B4.out hb7)
    have HG7 := Lib.hid hG7
    have SX7 := Lib.hid (SX4.out.below hb7)
    have S07 := Lib.hid (S04.out.below hb7)
    have S17 := Lib.hid (S14.out.below hb7)
    have HL7 := Lib.hid (HL4.out.step hb7)
    have SH0 := Lib.hid s0
    have SH1 := Lib.hid s1
    have hE0 : k0 ≤ 10000 := by omega
    have hE1 : k1 ≤ 10000 := by omega
    clear hO5 hO6 e0 e1 hG7 s0 s1 hb7 b7 q5 q6 r5 r5a r6 r6a r0 r1 zl
    go_wp2_with fail
    refine hR.out.mono ?_
    rintro e8 w8 ⟨Ar, nr, cr, L, rfl, hQ, hLC, hb8⟩
    have HQ := Lib.hid hQ
    have HLC := Lib.hid hLC
    have hnr : nr = C.length := by have h1 := hQ.len; have h2 := congrArg List.length hLC; simp only [List.length_map] at h2; omega
    subst hnr
    have HB8 := Lib.hid (bstep HB7.out hb8)
    have HG8 := Lib.hid (HG7.out.step hb8)
    have SX8 := Lib.hid (SX7.out.below hb8)
    have S08 := Lib.hid (S07.out.below hb8)
    have S18 := Lib.hid (S17.out.below hb8)
    have HL8 := Lib.hid (HL7.out.step hb8)
    have SH08 := Lib.hid (SH0.out.below hb8)
    have SH18 := Lib.hid (SH1.out.below hb8)
    generalize w6.heap.size = gh at *
    clear hR hQ hLC hb8 HB7 HG7 SX7 S07 S17 HL7 SH0 SH1 B4 SX4 S04 S14 HL4 bz bd HAb HAo HAt HH0 HH1
    go_wp2
    go_loopw [12, 13, 14, 15] (fun s12 s13 s14 s15 wr => ∃ (i at_ no2 : Nat) (Ao2 : Option Addr) (co2 : Nat) (out : List (List UInt8)) (cf : Bool), i ≤ C.length ∧ s15 = .int .i64 i ∧ s14 = .int .i64 at_ ∧ s13 = .bool cf ∧ s12 = .slice Ao2 no2 co2 ∧ Hid (EM x l0 l1 H0 H1 C i at_ out cf) ∧ Hid (Ow w8 wr 9 1 Ao2 no2 co2 (strs out))) (fun _ _ _ s15 _ => C.length - (intOf s15).toNat)
    case atStart => exact ⟨0, 0, 0, none, 0, [], false, Nat.zero_le _, rfl, rfl, rfl, rfl, Lib.hid EM.start, Lib.hid (Ow.nil_ (Below.refl _ _))⟩
    case round =>
      obtain ⟨i, at_, no2, Ao2, co2, out, cf, hi, rfl, rfl, rfl, rfl, HE, HO⟩ := hrel
      by_cases hlt : i < C.length
      · obtain ⟨br, offr, gr, rfl, hbr, hy, y0, y1, y2⟩ := HQ.out.at_ hlt
        obtain ⟨g, r⟩ := gr
        have hCr : C[i]? = some r := by rw [← HLC.out, List.getElem?_map, hy]; rfl
        have hmem := List.mem_of_getElem? hCr
        obtain ⟨hhi, ⟨p0, q0, hp0, hq0, hpq0, hql0⟩, ⟨p1, q1, hp1, hq1, hpq1, hql1⟩⟩ := Hfit.out r hmem
        have hlh := Hap.out.1.2 r hmem
        have hatl := HE.out.next r hCr
        have hstep := HE.out.step Hap.out.1 hCr Tb.out To.out Tt.out hhi
        have lx := strs_len SX8.out
        have ln0 := strs_len S08.out
        have ln1 := strs_len S18.out
        have hfew := HE.out.few
        have hno2 : out.length = no2 := strs_len HO.out.sl
        have hbl := HQ.out.bl _ (List.mem_of_getElem? hy)
        have Hblk := Lib.hid hbl
        obtain ⟨pa, hpa⟩ : ∃ pa, BlendLaw.partOf l0 p0 q0 = pa := ⟨_, rfl⟩
        obtain ⟨pb, hpb⟩ : ∃ pb, BlendLaw.partOf l1 p1 q1 = pb := ⟨_, rfl⟩
        have hT : takenOf l0 l1 H0 H1 r = BlendLaw.taken r.t0 r.t1 pa pb := by
          simp only [takenOf, hasOf, hp0, hq0, hp1, hq1, Int.toNat_natCast, hpa, hpb]
        have sa := S08.out.mid_ (j := p0) (k := q0) (c := c0) hpq0 (by omega) hc0.1
        have sb := S18.out.mid_ (j := p1) (k := q1) (c := c1) hpq1 (by omega) hc1.1
        have sa' : Sl w8 1 (cutA A0 c0 p0 1) (q0 - p0) (strs pa) := by rw [← hpa]; exact sa
        have sb' : Sl w8 1 (cutA A1 c1 p1 1) (q1 - p1) (strs pb) := by rw [← hpb]; exact sb
        have hpam : ∀ s ∈ pa, s.length ≤ 600 ∧ s ≠ [] := fun s hs => To.out.2 s (BlendLaw.part_mem (hpa ▸ hs))
        have hpbm : ∀ s ∈ pb, s.length ≤ 600 ∧ s ≠ [] := fun s hs => Tt.out.2 s (BlendLaw.part_mem (hpb ▸ hs))
        have wpa : BlendLaw.WL pa := by rw [← hpa]; exact Wo.out.part p0 q0
        have wpb : BlendLaw.WL pb := by rw [← hpb]; exact Wt.out.part p1 q1
        obtain ⟨na, hna⟩ : ∃ na, q0 - p0 = na := ⟨_, rfl⟩
        obtain ⟨nb', hnb'⟩ : ∃ nb', q1 - p1 = nb' := ⟨_, rfl⟩
        obtain ⟨CA, hCA⟩ : ∃ CA, cutA A0 c0 p0 1 = CA := ⟨_, rfl⟩
        obtain ⟨CB, hCB⟩ : ∃ CB, cutA A1 c1 p1 1 = CB := ⟨_, rfl⟩
        rw [hna, hCA] at sa'
        rw [hnb', hCB] at sb'
        have hnaN : na ≤ 600 := by omega
        have hnbN : nb' ≤ 600 := by omega
        have kX := fun W : World => run_cut_lh (P := Tryd.prog) W Tryd.underlying22 Tryd.sizeStr Ax nx cx .i64 .i64 at_ r.lo hatl (by have := hcx.1; omega)
        have sX := SX8.out.mid_ (j := at_) (k := r.lo) (c := cx) hatl (by omega) hcx.1
        obtain ⟨XX, hXX⟩ : ∃ X, cutA Ax cx at_ 1 = X := ⟨_, rfl⟩
        obtain ⟨nX, hnX⟩ : ∃ nX, r.lo - at_ = nX := ⟨_, rfl⟩
        obtain ⟨seg, hseg⟩ : ∃ seg, (x.drop at_).take nX = seg := ⟨_, rfl⟩
        rw [hXX, hnX] at kX sX
        rw [hseg] at sX
        rw [hnX, hseg, hT] at hstep
        have hnXN : nX ≤ 600 := by omega
        have hno3 : no2 ≤ 10000000 := by omega
        have q1' : no2 + nX ≤ maxLen := by simp only [maxLen]; omega
        have q2' : (no2 + nX) * 16 ≤ 140737488355328 := by omega
        have hasA := Lib.hid (fun W hb => refHas_any A0 n0 c0 AH0 k0 d0 H0 r.lo r.hi p0 q0 W hc0.1 (SH08.out.below hb) F0.out (by omega) (by omega) (by omega) hp0 hq0 hpq0 (by omega))
        have hasB := Lib.hid (fun W hb => refHas_any A1 n1 c1 AH1 k1 d1 H1 r.lo r.hi p1 q1 W hc1.1 (SH18.out.below hb) F1.out (by omega) (by omega) (by omega) hp1 hq1 hpq1 (by omega))
        simp only [hna, hCA] at hasA
        simp only [hnb', hCB] at hasB
        have HY := Lib.hid (show ∀ w', Below w8.heap.size w8 w' → (w'.cell? ⟨br, offr + i * 3, none⟩ = some (I r.lo) ∧ w'.cell? ⟨br, offr + i * 3 + 1, none⟩ = some (I r.hi) ∧ w'.cell? ⟨br, offr + i * 3 + 2, none⟩ = some (.slice (some ⟨g, 0, none⟩) 2 2) ∧ br < w'.heap.size) ∧ (w'.cell? ⟨gl, 0, none⟩ = some (.slice A0 n0 c0) ∧ w'.cell? ⟨gl, 1, none⟩ = some (.slice A1 n1 c1) ∧ gl < w'.heap.size) ∧ (w'.cell? ⟨gh, 0, none⟩ = some (.slice AH0 k0 d0) ∧ w'.cell? ⟨gh, 1, none⟩ = some (.slice AH1 k1 d1) ∧ gh < w'.heap.size) ∧ (w'.cell? ⟨g, 0, none⟩ = some (.bool r.t0) ∧ w'.cell? ⟨g, 1, none⟩ = some (.bool r.t1) ∧ g < w'.heap.size) from
          fun w' h => ⟨⟨(h.cell (p := ⟨br, offr + i * 3, none⟩) hbr).trans y0, (h.cell (p := ⟨br, offr + i * 3 + 1, none⟩) hbr).trans y1, (h.cell (p := ⟨br, offr + i * 3 + 2, none⟩) hbr).trans y2, Nat.lt_of_lt_of_le hbr h.size⟩,
            ⟨(HL8.out.step h).cell 0, (HL8.out.step h).cell 1, (HL8.out.step h).lt⟩, ⟨(HG8.out.step h).cell 0, (HG8.out.step h).cell 1, (HG8.out.step h).lt⟩, ⟨(Hblk.out.step h).cell 0, (Hblk.out.step h).cell 1, (Hblk.out.step h).lt⟩⟩)
        have Hstep := Lib.hid hstep
        have SA := Lib.hid sa'
        have SB := Lib.hid sb'
        have SXX := Lib.hid sX
        have Hpam := Lib.hid hpam
        have Hpbm := Lib.hid hpbm
        have Wpa := Lib.hid wpa
        have Wpb := Lib.hid wpb
        have lpa := strs_len sa'
        have lpb := strs_len sb'
        have Lpa := Lib.hid lpa
        have Lpb := Lib.hid lpb
        have hi3 : i ≤ 2400 := by omega
        obtain ⟨⟨z0, z1, z2, zr⟩, _⟩ := HY.out wr HO.out.2
        clear hy y0 y1 y2 hbl hCr hmem hp0 hq0 hp1 hq1 hpa hpb hT sa sb sa' sb' hpam hpbm wpa wpb hna hnb' hCA hCB hXX hnX hseg sX hstep lx ln0 ln1 hfew hno2 lpa lpb hhi hlh hatl hpq0 hpq1 hql0 hql1
        go_wp2_with (at_builtin; refine wpList_append_sl _ rfl (.tmp 44) (.tmp 52) _ rfl w8 9 i0 _ 1 16 Tryd.underlying22 hi0 hz0 hz1 hz2 rfl Nat.one_pos Ao2 no2 co2 (strs out) rfl HO.out XX nX _ (strs seg) rfl (SXX.out.below HO.out.2) (one_strs _) q1' q2' ?_; intro A9 c9 w9 hO9 hg9 hat9)
        have HO9 := Lib.hid hO9
        have hb9 : Below w8.heap.size w8 w9 := hO9.2
        clear hO9 hg9 hat9 z0 z1 z2 zr
        obtain ⟨⟨z0, z1, z2, zr⟩, ⟨u0, u1, zu⟩, ⟨v0, v1, zv⟩, _⟩ := HY.out w9 hb9
        go_quiet ((go_at_call 46; exact Calls.quiet_of (hasA.out _ (below_drewN hb9 _))))
        obtain ⟨w10, hw10⟩ : ∃ w10, w9.drewN nq = w10 := ⟨_, rfl⟩
        have hb10 : Below w8.heap.size w8 w10 := by rw [← hw10]; exact below_drewN hb9 _
        have HO10 := Lib.hid (show Ow w8 w10 9 1 A9 (no2 + nX) c9 (strs out ++ strs seg) by rw [← hw10]; exact HO9.out.drewN _)
        rw [hw10]
        clear hw10 HO9 hb9 z0 z1 z2 zr u0 u1 zu v0 v1 zv hasA
        obtain ⟨⟨z0, z1, z2, zr⟩, ⟨u0, u1, zu⟩, ⟨v0, v1, zv⟩, _⟩ := HY.out w10 hb10
        go_wp2
        go_quiet ((go_at_call 46; exact Calls.quiet_of (hasB.out _ (below_drewN hb10 _))))
        obtain ⟨w11, hw11⟩ : ∃ w11, w10.drewN nq = w11 := ⟨_, rfl⟩
        have hb11 : Below w8.heap.size w8 w11 := by rw [← hw11]; exact below_drewN hb10 _
        have HO11 := Lib.hid (show Ow w8 w11 9 1 A9 (no2 + nX) c9 (strs out ++ strs seg) by rw [← hw11]; exact HO10.out.drewN _)
        rw [hw11]
        clear hw11 HO10 hb10 z0 z1 z2 zr u0 u1 zu v0 v1 zv hasB
        obtain ⟨⟨z0, z1, z2, zr⟩, _, _, ⟨y0, y1, zy⟩⟩ := HY.out w11 hb11
        obtain ⟨f0, hf0⟩ : ∃ f0, r.t0 = f0 := ⟨_, rfl⟩
        obtain ⟨f1, hf1⟩ : ∃ f1, r.t1 = f1 := ⟨_, rfl⟩
        rw [hf0] at y0
        rw [hf1] at y1
        rw [hf0, hf1] at Hstep
        have Hf0 := Lib.hid hf0
        have Hf1 := Lib.hid hf1
        clear hf0 hf1
        cases f1 with
        | false =>
          go_wp2_with (at_builtin; refine wpList_append_sl _ rfl (.tmp 110) (.tmp 111) _ rfl w8 9 i0 _ 1 16 Tryd.underlying22 hi0 hz0 hz1 hz2 rfl Nat.one_pos A9 (no2 + nX) c9 (strs out ++ strs seg) rfl HO11.out CA na _ (strs pa) rfl (SA.out.below hb11) (one_strs _) (by simp only [maxLen]; omega) (by omega) ?_; intro A12 c12 w12 hO12 hg12 hat12; obtain ⟨⟨x0, x1, x2, xr⟩, _⟩ := HY.out w12 hO12.2)
          have HO12 := Lib.hid hO12
          clear hO12 hg12 hat12
          go_roundw
          case rel =>
            refine ⟨i + 1, r.hi, _, A12, c12, _, _, by omega, by go_num, rfl, rfl, rfl, Lib.hid (show EM x l0 l1 H0 H1 C (i + 1) r.hi (out ++ seg ++ pa) cf from ?_), Lib.hid ?_⟩
            · have h := Hstep.out
              simp [BlendLaw.taken] at h
              simpa using h
            · have h := HO12.out
              simp only [strs, ← List.map_append] at h
              exact h
          case measure => simp [intOf]; omega
        | true =>
          cases f0 with
          | false =>
            go_wp2_with (at_builtin; refine wpList_append_sl _ rfl (.tmp 121) (.tmp 122) _ rfl w8 9 i0 _ 1 16 Tryd.underlying22 hi0 hz0 hz1 hz2 rfl Nat.one_pos A9 (no2 + nX) c9 (strs out ++ strs seg) rfl HO11.out CB nb' _ (strs pb) rfl (SB.out.below hb11) (one_strs _) (by simp only [maxLen]; omega) (by omega) ?_; intro A12 c12 w12 hO12 hg12 hat12; obtain ⟨⟨x0, x1, x2, xr⟩, _⟩ := HY.out w12 hO12.2)
            have HO12 := Lib.hid hO12
            clear hO12 hg12 hat12
            go_roundw
            case rel =>
              refine ⟨i + 1, r.hi, _, A12, c12, _, _, by omega, by go_num, rfl, rfl, rfl, Lib.hid (show EM x l0 l1 H0 H1 C (i + 1) r.hi (out ++ seg ++ pb) cf from ?_), Lib.hid ?_⟩
              · have h := Hstep.out
                simp [BlendLaw.taken] at h
                simpa using h
              · have h := HO12.out
                simp only [strs, ← List.map_append] at h
                exact h
            case measure => simp [intOf]; omega
          | true =>
            obtain ⟨v, hv⟩ : ∃ v, decide (pa = pb) = v := ⟨_, rfl⟩
            have hfa : pa.flatten.length ≤ 1000000 := by
              have h1 := BlendLaw.flat_len (l := pa) (M := 600) (fun s hs => (Hpam.out s hs).1)
              have h2 := Lpa.out
              have h3 : pa.length * 600 ≤ 600 * 600 := Nat.mul_le_mul_right _ (by omega)
              omega
            have hfb : pb.flatten.length ≤ 1000000 := by
              have h1 := BlendLaw.flat_len (l := pb) (M := 600) (fun s hs => (Hpbm.out s hs).1)
              have h2 := Lpb.out
              have h3 : pb.length * 600 ≤ 600 * 600 := Nat.mul_le_mul_right _ (by omega)
              omega
            have Hv := Lib.hid hv
            clear hv
            go_wp2_with fail
            refine (refSame17_any CA CB na nb' (c0 - p0) (c1 - p1) pa pb v _ (SA.out.below hb11) (SB.out.below hb11) (by omega) (by omega) hfa hfb Wpa.out Wpb.out Hv.out).mono ?_
            rintro e12 w12 ⟨rfl, b12⟩
            have hb12 : Below w8.heap.size w8 w12 := bstep hb11 b12
            have HO12 := Lib.hid (HO11.out.keep b12)
            clear b12 hb11 HO11 z0 z1 z2 zr y0 y1 zy hfa hfb
            obtain ⟨⟨z0, z1, z2, zr⟩, _, _, ⟨y0, y1, zy⟩⟩ := HY.out w12 hb12
            rw [Hf0.out] at y0
            rw [Hf1.out] at y1
            cases v with
            | true =>
              go_wp2_with (at_builtin; refine wpList_append_sl _ rfl (.tmp 110) (.tmp 111) _ rfl w8 9 i0 _ 1 16 Tryd.underlying22 hi0 hz0 hz1 hz2 rfl Nat.one_pos A9 (no2 + nX) c9 (strs out ++ strs seg) rfl HO12.out CA na _ (strs pa) rfl (SA.out.below hb12) (one_strs _) (by simp only [maxLen]; omega) (by omega) ?_; intro A13 c13 w13 hO13 hg13 hat13; obtain ⟨⟨x0, x1, x2, xr⟩, _⟩ := HY.out w13 hO13.2)
              have HO13 := Lib.hid hO13
              clear hO13 hg13 hat13
              go_roundw
              case rel =>
                refine ⟨i + 1, r.hi, _, A13, c13, _, _, by omega, by go_num, rfl, rfl, rfl, Lib.hid (show EM x l0 l1 H0 H1 C (i + 1) r.hi (out ++ seg ++ pa) cf from ?_), Lib.hid ?_⟩
                · have h := Hstep.out
                  have e : pa = pb := of_decide_eq_true Hv.out
                  subst e
                  simp [BlendLaw.taken] at h
                  simpa using h
                · have h := HO13.out
                  simp only [strs, ← List.map_append] at h
                  exact h
              case measure => simp [intOf]; omega
            | false =>
              have hT : BlendLaw.taken true true pa pb = (BlendLaw.sBegin :: (BlendLaw.closed pa ++ BlendLaw.sMiddle :: (BlendLaw.closed pb ++ [BlendLaw.sEnd])), true) := by
                have e : ¬ pa = pb := of_decide_eq_false Hv.out
                simp [BlendLaw.taken, e]
              rw [hT] at Hstep
              clear hT
              have CCA := Lib.hid (fun W hb => refClosed_any CA na (c0 - p0) pa W (SA.out.below hb) (by omega) (fun s hs => (Hpam.out s hs).2) (fun s hs => by have := (Hpam.out s hs).1; omega))
              have CCB := Lib.hid (fun W hb => refClosed_any CB nb' (c1 - p1) pb W (SB.out.below hb) (by omega) (fun s hs => (Hpbm.out s hs).2) (fun s hs => by have := (Hpbm.out s hs).1; omega))
              go_wp2_with (at_builtin; refine wpList_append_sl _ rfl (.tmp 124) (.tmp 125) _ rfl w8 9 i0 _ 1 16 Tryd.underlying22 hi0 hz0 hz1 hz2 rfl Nat.one_pos A9 (no2 + nX) c9 (strs out ++ strs seg) rfl (HO12.out.alloc _) (some ⟨w12.heap.size, 0, none⟩) 1 _ (strs [BlendLaw.sBegin]) rfl (Blk.new w12 9 (strs [BlendLaw.sBegin]).toArray).sl (one_strs _) (by simp only [maxLen]; omega) (by omega) ?_; intro A13 c13 w13 hO13 hg13 hat13)
              have hb13 : Below w8.heap.size w8 w13 := hO13.2
              have HO13 := Lib.hid hO13
              clear hO13 hg13 hat13 hb12 HO12 z0 z1 z2 zr y0 y1 zy
              refine (CCA.out _ hb13).mono ?_
              rintro e14 w14 ⟨A14, c14, rfl, hO14⟩
              have hb14 : Below w8.heap.size w8 w14 := bstep hb13 hO14.2
              have HO14 := Lib.hid (HO13.out.keep hO14.2)
              have HS14 := Lib.hid hO14.sl
              clear hO14 HO13 hb13
              go_wp2_with (first
                | (at_builtin; refine wpList_append_sl _ rfl (.tmp 127) (.tmp 129) _ rfl w8 9 i0 _ 1 16 Tryd.underlying22 hi0 hz0 hz1 hz2 rfl Nat.one_pos A13 (no2 + nX + 1) c13 (strs out ++ strs seg ++ strs [BlendLaw.sBegin]) rfl HO14.out A14 na _ (strs (BlendLaw.closed pa)) rfl HS14.out (one_strs _) (by simp only [maxLen]; omega) (by omega) ?_; intro A15 c15 w15 hO15 hg15 hat15)
                | (at_builtin; refine wpList_append_sl _ rfl (.tmp 131) (.tmp 132) _ rfl w8 9 i0 _ 1 16 Tryd.underlying22 hi0 hz0 hz1 hz2 rfl Nat.one_pos A15 (no2 + nX + 1 + na) c15 (strs out ++ strs seg ++ strs [BlendLaw.sBegin] ++ strs (BlendLaw.closed pa)) rfl (hO15.alloc _) (some ⟨w15.heap.size, 0, none⟩) 1 _ (strs [BlendLaw.sMiddle]) rfl (Blk.new w15 9 (strs [BlendLaw.sMiddle]).toArray).sl (one_strs _) (by simp only [maxLen]; omega) (by omega) ?_; intro A16 c16 w16 hO16 hg16 hat16))
              have hb16 : Below w8.heap.size w8 w16 := hO16.2
              have HO16 := Lib.hid hO16
              clear hO16 hg16 hat16 hO15 hg15 hat15 HO14 HS14 hb14
              refine (CCB.out _ hb16).mono ?_
              rintro e17 w17 ⟨A17, c17, rfl, hO17⟩
              have HO17 := Lib.hid (HO16.out.keep hO17.2)
              have HS17 := Lib.hid hO17.sl
              clear hO17 HO16 hb16
              go_wp2_with (first
                | (at_builtin; refine wpList_append_sl _ rfl (.tmp 134) (.tmp 136) _ rfl w8 9 i0 _ 1 16 Tryd.underlying22 hi0 hz0 hz1 hz2 rfl Nat.one_pos A16 (no2 + nX + 1 + na + 1) c16 (strs out ++ strs seg ++ strs [BlendLaw.sBegin] ++ strs (BlendLaw.closed pa) ++ strs [BlendLaw.sMiddle]) rfl HO17.out A17 nb' _ (strs (BlendLaw.closed pb)) rfl HS17.out (one_strs _) (by simp only [maxLen]; omega) (by omega) ?_; intro A18 c18 w18 hO18 hg18 hat18)
                | (at_builtin; refine wpList_append_sl _ rfl (.tmp 138) (.tmp 139) _ rfl w8 9 i0 _ 1 16 Tryd.underlying22 hi0 hz0 hz1 hz2 rfl Nat.one_pos A18 (no2 + nX + 1 + na + 1 + nb') c18 (strs out ++ strs seg ++ strs [BlendLaw.sBegin] ++ strs (BlendLaw.closed pa) ++ strs [BlendLaw.sMiddle] ++ strs (BlendLaw.closed pb)) rfl (hO18.alloc _) (some ⟨w18.heap.size, 0, none⟩) 1 _ (strs [BlendLaw.sEnd]) rfl (Blk.new w18 9 (strs [BlendLaw.sEnd]).toArray).sl (one_strs _) (by simp only [maxLen]; omega) (by omega) ?_; intro A19 c19 w19 hO19 hg19 hat19; obtain ⟨⟨x0, x1, x2, xr⟩, _⟩ := HY.out w19 hO19.2))
              have HO19 := Lib.hid hO19
              clear hO19 hg19 hat19 hO18 hg18 hat18
              go_roundw
              case rel =>
                refine ⟨i + 1, r.hi, _, A19, c19, _, _, by omega, by go_num, rfl, rfl, rfl, Lib.hid (show EM x l0 l1 H0 H1 C (i + 1) r.hi (out ++ seg ++ (BlendLaw.sBegin :: (BlendLaw.closed pa ++ BlendLaw.sMiddle :: (BlendLaw.closed pb ++ [BlendLaw.sEnd])))) true from ?_), Lib.hid ?_⟩
                · have h := Hstep.out
                  rw [Bool.or_true] at h
                  exact h
                · have h := HO19.out
                  simp only [strs, ← List.map_append] at h
                  simpa [strs] using h
              case measure => simp [intOf]; omega
      · obtain rfl : i = C.length := by omega
        have hdone := HE.out.done (Nat.le_refl _)
        have hle := HE.out.le
        have lx := strs_len SX8.out
        have hno2 : out.length = no2 := strs_len HO.out.sl
        have hfew := HE.out.few
        have kX := fun W : World => run_cut_l (P := Tryd.prog) W Tryd.underlying22 Tryd.sizeStr Ax nx cx .i64 at_ (by omega)
        have sX := SX8.out.tail_ (k := at_) (c := cx) (by omega) hcx.1
        obtain ⟨XX, hXX⟩ : ∃ X, cutA Ax cx at_ 1 = X := ⟨_, rfl⟩
        obtain ⟨nX, hnX⟩ : ∃ nX, nx - at_ = nX := ⟨_, rfl⟩
        obtain ⟨seg, hseg⟩ : ∃ seg, x.drop at_ = seg := ⟨_, rfl⟩
        rw [hXX, hnX] at kX sX
        rw [hseg] at sX hdone
        have hnXN : nX ≤ 600 := by omega
        have hno3 : no2 ≤ 10000000 := by omega
        obtain ⟨fl, hfl⟩ : ∃ fl, (out ++ seg).flatten = fl := ⟨_, rfl⟩
        have hflat : fl.length ≤ 140737488355328 := by
          have h9 := BlendLaw.flat_len (l := out ++ seg) (M := 700) (fun s hs => by
            rcases List.mem_append.1 hs with hs | hs
            · exact HE.out.short s hs
            · have := (Tb.out.2 s (List.mem_of_mem_drop (hseg ▸ hs))).1; omega)
          have h8 := strs_len sX
          rw [hfl, List.length_append] at h9
          have h10 : (out.length + seg.length) * 700 ≤ 11000000 * 700 := Nat.mul_le_mul_right _ (by omega)
          omega
        have Hdone := Lib.hid hdone
        have SXX := Lib.hid sX
        have Hfl := Lib.hid hfl
        clear hdone hle lx hno2 hfew hXX hnX hseg sX hfl
        go_wp2_with (at_builtin; refine wpList_append_sl _ rfl (.tmp 146) (.tmp 149) _ rfl w8 9 i0 _ 1 16 Tryd.underlying22 hi0 hz0 hz1 hz2 rfl Nat.one_pos Ao2 no2 co2 (strs out) rfl HO.out XX nX _ (strs seg) rfl (SXX.out.below HO.out.2) (one_strs _) (by simp only [maxLen]; omega) (by omega) ?_; intro A9 c9 w9 hO9 hg9 hat9)
        have hs9 := hO9.sl
        simp only [strs, ← List.map_append] at hs9
        have HB9 := Lib.hid (bstep HB8.out hO9.2)
        clear hO9 hg9 hat9
        refine (refJoin_any A9 (no2 + nX) c9 (out ++ seg) fl _ hs9 Hfl.out (by omega) hflat).mono ?_
        rintro e10 w10 ⟨A10, c10, rfl, hO10⟩
        have HS10 := Lib.hid hO10.sl
        have HB10 := Lib.hid (bstep HB9.out hO10.2)
        clear hO10 hs9
        go_wp2
        go_ret2
        refine ⟨A10, fl.length, c10, ?_, ?_, HB10.out⟩
        · rw [Hdone.out]; rfl
        · rw [Hdone.out, Hfl.out]; exact HS10.out
end Go.Proofs.YtpnogcblafmaiaaDoor

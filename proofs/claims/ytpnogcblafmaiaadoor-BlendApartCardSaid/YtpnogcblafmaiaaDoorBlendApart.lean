/-
  dolmenlaw17.BlendApart returns true. Conditions: slices read as lists; internal/bytealg.MaxLen holds an int.
-/
import Derived.Test.YtpnogcblafmaiaaDoorBlendLaws
import Derived.Test.YtpnogcblafmaiaaDoorBlendWhole
import Derived.Test.YtpnogcblafmaiaaDoorBlendLaw7
namespace Go.Proofs.YtpnogcblafmaiaaDoor
open Go.RowKit
open LineLaw (Hk)

/-- the wall -/
def wallL : List UInt8 := [97, 32, 119, 97, 108, 108, 32, 111, 102, 32, 97, 32, 108, 105, 110, 101, 32, 116, 104, 97, 116, 32, 110, 111, 98, 111, 100, 121, 32, 101, 108, 115, 101, 32, 104, 97, 115, 10]
theorem wall_cl : BlendLaw.Cl wallL := ⟨[97, 32, 119, 97, 108, 108, 32, 111, 102, 32, 97, 32, 108, 105, 110, 101, 32, 116, 104, 97, 116, 32, 110, 111, 98, 111, 100, 121, 32, 101, 108, 115, 101, 32, 104, 97, 115], rfl, by decide⟩
/-- bytes' lines, each ended -/
abbrev wl (b : List UInt8) : List (List UInt8) := BlendLaw.closed (LinesLaw.lns b)
theorem wl_cl (b : List UInt8) : ∀ s ∈ wl b, BlendLaw.Cl s := BlendLaw.closed_cl (BlendLaw.wl_lns b)
theorem wl_len (b : List UInt8) : (wl b).length ≤ b.length := by rw [BlendLaw.closed_len]; exact LinesLaw.lns_len b
/-- two with a wall between them -/
def walled (a c : List UInt8) : List UInt8 := (wl a).flatten ++ wallL ++ (wl c).flatten
theorem walled_lns (a c : List UInt8) : LinesLaw.lns (walled a c) = wl a ++ wallL :: wl c := by
  unfold walled
  rw [← BlendLaw.flat_wall]
  exact BlendLaw.lns_closed (fun s hs => by
    rcases List.mem_append.1 hs with hs | hs
    · exact wl_cl a s hs
    · rcases List.mem_cons.1 hs with rfl | hs
      · exact wall_cl
      · exact wl_cl c s hs)
theorem walled_len (a c : List UInt8) (ha : a.length ≤ 600) (hc : c.length ≤ 600) : (walled a c).length ≤ 1240 := by
  unfold walled
  have h1 : (wl a).flatten.length ≤ a.length + 1 := BlendLaw.closed_flat_len a
  have h2 : (wl c).flatten.length ≤ c.length + 1 := BlendLaw.closed_flat_len c
  simp only [List.length_append]
  have h3 : wallL.length = 38 := rfl
  omega
theorem diff_at {x l : List (List UInt8)} (h : BlendLaw.strip x l ≤ 1048576) (hx : x.length ≤ 1000000) (hl : l.length ≤ 1000000) : DiffC x l := by
  intro A A' n n' c c' w hA hA' hc hc'
  have e1 := strs_len hA
  have e2 := strs_len hA'
  subst e1 e2
  exact diff_strip A A' _ _ c c' x l w hA hA' hc hc' h (by omega) (by omega)
theorem lines_few (a c : List UInt8) (ha : a.length ≤ 600) (hc : c.length ≤ 600) : (wl a ++ wallL :: wl c).length ≤ 1201 := by
  have h1 := wl_len a
  have h2 := wl_len c
  simp only [List.length_append, List.length_cons]
  omega
/-- what the first turned -/
theorem diff_first {a b c : List UInt8} (ha : a.length ≤ 600) (hb : b.length ≤ 600) (hc : c.length ≤ 600) (wa : wallL ∉ wl a) (wb : wallL ∉ wl b) : DiffC (LinesLaw.lns (walled a c)) (LinesLaw.lns (walled b c)) := by
  rw [walled_lns, walled_lns]
  have h1 := wl_len a
  have h2 := wl_len b
  exact diff_at (BlendLaw.strip_wall (by omega) (by omega) wa wb) (by have := lines_few a c ha hc; omega) (by have := lines_few b c hb hc; omega)
/-- what the second turned -/
theorem diff_second {a c d : List UInt8} (ha : a.length ≤ 600) (hc : c.length ≤ 600) (hd : d.length ≤ 600) : DiffC (LinesLaw.lns (walled a c)) (LinesLaw.lns (walled a d)) := by
  rw [walled_lns, walled_lns]
  have h1 := wl_len c
  have h2 := wl_len d
  exact diff_at (BlendLaw.strip_front (by simp only [List.length_cons]; omega) (by simp only [List.length_cons]; omega)) (by have := lines_few a c ha hc; omega) (by have := lines_few a d ha hd; omega)
theorem merge_walled (a b c d : List UInt8) (h0 : ∀ h ∈ LineLaw.diff (wl a ++ wallL :: wl c) (wl b ++ wallL :: wl c), h.a1 ≤ (wl a).length) (h1 : ∀ h ∈ LineLaw.diff (wl a ++ wallL :: wl c) (wl a ++ wallL :: wl d), (wl a).length < h.a0) :
    BlendLaw.merge (walled a c) (walled b c) (walled a d) = (walled b d, false) := by
  have h := BlendLaw.mergeL_apart h0 h1
  unfold BlendLaw.merge
  rw [walled_lns, walled_lns, walled_lns, h]
  simp only [BlendLaw.flat_wall, walled]

/-- whole, joined, as a text -/
theorem whole_text (A : Option Addr) (n c : Nat) (b : List UInt8) (w : World) (hA : Sl w 1 A n (u8s b)) (hc : n ≤ c) (hn : n ≤ 600) :
    Calls Tryd.prog 31 #[.slice A n c] w fun e w' => ∃ A' m c', e = .returned (.slice A' m c') ∧ m = (wl b).length ∧ Sl w' 1 A' m (strs (wl b)) ∧ Below w.heap.size w w' :=
  (whole_any A n c b w hA hc hn).mono fun _ _ ⟨A', m, c', he, _, hO⟩ => ⟨A', m, c', he, (strs_len hO.sl).symm, hO.sl, hO.2⟩
theorem merge_at (Ab : Option Addr) (nb cb : Nat) (b : List UInt8) (Ao : Option Addr) (no co : Nat) (o : List UInt8) (At : Option Addr) (nt ct : Nat) (t : List UInt8) (r : List UInt8) (f : Bool) (n : Nat) (w : World) (hAb : Sl w 1 Ab nb (u8s b)) (hAo : Sl w 1 Ao no (u8s o)) (hAt : Sl w 1 At nt (u8s t))
    (hnb : nb ≤ 4000) (hno : no ≤ 4000) (hnt : nt ≤ 4000) (hM : MaxL w) (hD0 : DiffC (LinesLaw.lns b) (LinesLaw.lns o)) (hD1 : DiffC (LinesLaw.lns b) (LinesLaw.lns t)) (hm : BlendLaw.merge b o t = (r, f)) (hr : r.length = n) :
    Calls Tryd.prog 29 #[.slice Ab nb cb, .slice Ao no co, .slice At nt ct] w fun e w' => ∃ A c, e = .returned (.tuple #[.slice A n c, .bool f]) ∧ Sl w' 1 A n (u8s r) ∧ Below w.heap.size w w' := by
  subst hr
  refine (merge_any Ab nb cb b Ao no co o At nt ct t w hAb hAo hAt hnb hno hnt hM hD0 hD1).mono ?_
  rintro e w' ⟨A, c, he, _, hS, hb⟩
  rw [hm] at he hS
  exact ⟨A, c, he, hS, hb⟩
theorem heldW (A : Option Addr) (n c : Nat) (b s : List UInt8) (v : Bool) (w : World) (hA : Sl w 1 A n (u8s b)) (hc : n ≤ c) (hn : n ≤ 600) (hv : decide (s ∈ BlendLaw.closed (LinesLaw.lns b)) = v) :
    Calls Tryd.prog 32 #[.slice A n c, S s] w fun e w' => e = .returned (.bool v) ∧ Below w.heap.size w w' := by
  have h := held_any A n c b s w hA hc hn
  rwa [hv] at h
set_option maxRecDepth 100000 in
theorem blendApart_far (A0 A1 A2 A3 : Option Addr) (n0 n1 n2 n3 c0 c1 c2 c3 : Nat) (w : World) (hM : MaxL w) (h : 600 < n0 ∨ 600 < n1 ∨ 600 < n2 ∨ 600 < n3) :
    Calls Tryd.prog 11 #[.slice A0 n0 c0, .slice A1 n1 c1, .slice A2 n2 c2, .slice A3 n3 c3] w fun e w' => e = .returned (.bool true) ∧ Below w.heap.size w w' := by
  by_cases h1 : 600 < n0 ∨ 600 < n1
  · go_enter Tryd.func11, Tryd.ntmps11
    go_wp2_with fail
    refine (awake17_any _ hM).mono ?_
    rintro e w1 ⟨rfl, b1⟩
    go_wp2_with fail
    refine (few_no A0 A1 none n0 n1 0 c0 c1 0 _ (by omega)).mono ?_
    rintro e w2 ⟨rfl, b2⟩
    go_wp2
    go_ret
    exact ⟨rfl, bstep b1 b2⟩
  · go_enter Tryd.func11, Tryd.ntmps11
    go_wp2_with fail
    refine (awake17_any _ hM).mono ?_
    rintro e w1 ⟨rfl, b1⟩
    go_wp2_with fail
    refine (few_yes A0 A1 none n0 n1 0 c0 c1 0 _ (by omega) (by omega) (by omega)).mono ?_
    rintro e w2 ⟨rfl, b2⟩
    go_wp2_with fail
    refine (few_no A2 A3 none n2 n3 0 c2 c3 0 _ (by omega)).mono ?_
    rintro e w3 ⟨rfl, b3⟩
    go_wp2
    go_ret
    exact ⟨rfl, bstep (bstep b1 b2) b3⟩

def p1 (N : Nat) (l : List Hk) : Bool := l.all fun h => decide (h.a1 ≤ N) && decide (h.a0 ≤ N)
def p2 (N : Nat) (l : List Hk) : Bool := l.all fun h => decide (N < h.a0)
theorem p1_snoc {N k : Nat} {l : List Hk} {x : Hk} (hx : l[k]? = some x) : p1 N (l.take (k + 1)) = (p1 N (l.take k) && (decide (x.a1 ≤ N) && decide (x.a0 ≤ N))) := by
  unfold p1
  rw [List.take_add_one, hx, List.all_append]
  simp
theorem p2_snoc {N k : Nat} {l : List Hk} {x : Hk} (hx : l[k]? = some x) : p2 N (l.take (k + 1)) = (p2 N (l.take k) && decide (N < x.a0)) := by
  unfold p2
  rw [List.take_add_one, hx, List.all_append]
  simp

set_option maxHeartbeats 8000000 in
set_option maxRecDepth 100000 in
theorem blendApart_near (A0 A1 A2 A3 : Option Addr) (n0 n1 n2 n3 c0 c1 c2 c3 : Nat) (a b c d : List UInt8) (w : World) (hA0 : Sl w 1 A0 n0 (u8s a)) (hA1 : Sl w 1 A1 n1 (u8s b)) (hA2 : Sl w 1 A2 n2 (u8s c)) (hA3 : Sl w 1 A3 n3 (u8s d)) (hc0 : n0 ≤ c0) (hc1 : n1 ≤ c1) (hc2 : n2 ≤ c2) (hc3 : n3 ≤ c3)
    (h0 : n0 ≤ 600) (h1 : n1 ≤ 600) (h2 : n2 ≤ 600) (h3 : n3 ≤ 600) (hM : MaxL w) :
    Calls Tryd.prog 11 #[.slice A0 n0 c0, .slice A1 n1 c1, .slice A2 n2 c2, .slice A3 n3 c3] w fun e w' => e = .returned (.bool true) ∧ Below w.heap.size w w' := by
  have la : a.length = n0 := by simpa using hA0.len
  have lb : b.length = n1 := by simpa using hA1.len
  have lc : c.length = n2 := by simpa using hA2.len
  have ld : d.length = n3 := by simpa using hA3.len
  have hfa := BlendLaw.closed_flat_len a
  have hfb := BlendLaw.closed_flat_len b
  have hfc := BlendLaw.closed_flat_len c
  have hfd := BlendLaw.closed_flat_len d
  have hna := wl_len a
  have hnb := wl_len b
  have hnc := wl_len c
  have hnd := wl_len d
  obtain ⟨X, hX⟩ : ∃ X, (wl a).flatten = X := ⟨_, rfl⟩
  obtain ⟨Y, hY⟩ : ∃ Y, (wl b).flatten = Y := ⟨_, rfl⟩
  obtain ⟨U, hU⟩ : ∃ U, (wl c).flatten = U := ⟨_, rfl⟩
  obtain ⟨V, hV⟩ : ∃ V, (wl d).flatten = V := ⟨_, rfl⟩
  rw [hX] at hfa
  rw [hY] at hfb
  rw [hU] at hfc
  rw [hV] at hfd
  have lX : X.length ≤ 601 := by omega
  have lY : Y.length ≤ 601 := by omega
  have lU : U.length ≤ 601 := by omega
  have lV : V.length ≤ 601 := by omega
  have HX := Lib.hid hX
  have HY := Lib.hid hY
  have HU := Lib.hid hU
  have HV := Lib.hid hV
  have HA0 := Lib.hid hA0
  have HA1 := Lib.hid hA1
  have HA2 := Lib.hid hA2
  have HA3 := Lib.hid hA3
  have Hla := Lib.hid la
  have Hlb := Lib.hid lb
  have Hlc := Lib.hid lc
  have Hld := Lib.hid ld
  obtain ⟨v0, hv0⟩ : ∃ v, decide (wallL ∈ BlendLaw.closed (LinesLaw.lns a)) = v := ⟨_, rfl⟩
  obtain ⟨v1, hv1⟩ : ∃ v, decide (wallL ∈ BlendLaw.closed (LinesLaw.lns b)) = v := ⟨_, rfl⟩
  obtain ⟨v2, hv2⟩ : ∃ v, decide (wallL ∈ BlendLaw.closed (LinesLaw.lns c)) = v := ⟨_, rfl⟩
  obtain ⟨v3, hv3⟩ : ∃ v, decide (wallL ∈ BlendLaw.closed (LinesLaw.lns d)) = v := ⟨_, rfl⟩
  have Hv0 := Lib.hid hv0
  have Hv1 := Lib.hid hv1
  have Hv2 := Lib.hid hv2
  have Hv3 := Lib.hid hv3
  have Hna := Lib.hid hna
  have Hnb := Lib.hid hnb
  have Hnc := Lib.hid hnc
  have Hnd := Lib.hid hnd
  clear hA0 hA1 hA2 hA3 hX hY hU hV la lb lc ld hfa hfb hfc hfd hv0 hv1 hv2 hv3 hna hnb hnc hnd
  go_enter Tryd.func11, Tryd.ntmps11
  go_wp2_with fail
  refine (awake17_any _ hM).mono ?_
  rintro e w1 ⟨rfl, b1⟩
  have B1 := Lib.hid b1
  clear b1
  go_wp2_with fail
  refine (few_yes A0 A1 none n0 n1 0 c0 c1 0 _ h0 h1 (by omega)).mono ?_
  rintro e w2 ⟨rfl, b2⟩
  have B2 := Lib.hid (bstep B1.out b2)
  clear b2 B1
  go_wp2_with fail
  refine (few_yes A2 A3 none n2 n3 0 c2 c3 0 _ h2 h3 (by omega)).mono ?_
  rintro e w3 ⟨rfl, b3⟩
  have B3 := Lib.hid (bstep B2.out b3)
  clear b3 B2
  go_wp2_with fail
  refine (whole_text A0 n0 c0 a _ (HA0.out.below B3.out) hc0 h0).mono ?_
  rintro e w4 ⟨D0, m0, k0, rfl, hm0, hS, hb⟩
  have B4 := Lib.hid (bstep B3.out hb)
  have HS := Lib.hid hS
  have hmm0 : m0 ≤ 600 := by rw [hm0]; have := Hna.out; have := Hla.out; omega
  clear hS hb B3 hm0
  go_wp2_with fail
  refine (refJoin_any D0 m0 k0 (wl a) X _ HS.out HX.out (by omega) (by omega)).mono ?_
  rintro e w5 ⟨E0, q0, rfl, hO⟩
  have B5 := Lib.hid (bstep B4.out hO.2)
  have kc0 := conv_any (c := q0) hO.sl w5 (Below.refl _ _)
  clear hO HS B4
  go_wp2_with fail
  refine (whole_text A1 n1 c1 b _ (HA1.out.below B5.out) hc1 h1).mono ?_
  rintro e w6 ⟨D1, m1, k1, rfl, hm1, hS, hb⟩
  have B6 := Lib.hid (bstep B5.out hb)
  have HS := Lib.hid hS
  have hmm1 : m1 ≤ 600 := by rw [hm1]; have := Hnb.out; have := Hlb.out; omega
  clear hS hb B5 hm1
  go_wp2_with fail
  refine (refJoin_any D1 m1 k1 (wl b) Y _ HS.out HY.out (by omega) (by omega)).mono ?_
  rintro e w7 ⟨E1, q1, rfl, hO⟩
  have B7 := Lib.hid (bstep B6.out hO.2)
  have kc1 := conv_any (c := q1) hO.sl w7 (Below.refl _ _)
  clear hO HS B6
  go_wp2_with fail
  refine (whole_text A2 n2 c2 c _ (HA2.out.below B7.out) hc2 h2).mono ?_
  rintro e w8 ⟨D2, m2, k2, rfl, hm2, hS, hb⟩
  have B8 := Lib.hid (bstep B7.out hb)
  have HS := Lib.hid hS
  have hmm2 : m2 ≤ 600 := by rw [hm2]; have := Hnc.out; have := Hlc.out; omega
  clear hS hb B7 hm2
  go_wp2_with fail
  refine (refJoin_any D2 m2 k2 (wl c) U _ HS.out HU.out (by omega) (by omega)).mono ?_
  rintro e w9 ⟨E2, q2, rfl, hO⟩
  have B9 := Lib.hid (bstep B8.out hO.2)
  have kc2 := conv_any (c := q2) hO.sl w9 (Below.refl _ _)
  clear hO HS B8
  go_wp2_with fail
  refine (whole_text A3 n3 c3 d _ (HA3.out.below B9.out) hc3 h3).mono ?_
  rintro e w10 ⟨D3, m3, k3, rfl, hm3, hS, hb⟩
  have B10 := Lib.hid (bstep B9.out hb)
  have HS := Lib.hid hS
  have hmm3 : m3 ≤ 600 := by rw [hm3]; have := Hnd.out; have := Hld.out; omega
  clear hS hb B9 hm3
  go_wp2_with fail
  refine (refJoin_any D3 m3 k3 (wl d) V _ HS.out HV.out (by omega) (by omega)).mono ?_
  rintro e w11 ⟨E3, q3, rfl, hO⟩
  have B11 := Lib.hid (bstep B10.out hO.2)
  have kc3 := conv_any (c := q3) hO.sl w11 (Below.refl _ _)
  clear hO HS B10
  go_wp2_with fail
  refine (heldW A0 n0 c0 a wallL v0 _ (HA0.out.below B11.out) hc0 h0 Hv0.out).mono ?_
  rintro e w12 ⟨rfl, hb⟩
  have B12 := Lib.hid (bstep B11.out hb)
  clear hb B11
  cases v0 with
  | true =>
    go_wp2
    go_ret
    exact ⟨rfl, B12.out⟩
  | false =>
  go_wp2_with fail
  refine (heldW A1 n1 c1 b wallL v1 _ (HA1.out.below B12.out) hc1 h1 Hv1.out).mono ?_
  rintro e w13 ⟨rfl, hb⟩
  have B13 := Lib.hid (bstep B12.out hb)
  clear hb B12
  cases v1 with
  | true =>
    go_wp2
    go_ret
    exact ⟨rfl, B13.out⟩
  | false =>
  go_wp2_with fail
  refine (heldW A2 n2 c2 c wallL v2 _ (HA2.out.below B13.out) hc2 h2 Hv2.out).mono ?_
  rintro e w14 ⟨rfl, hb⟩
  have B14 := Lib.hid (bstep B13.out hb)
  clear hb B13
  cases v2 with
  | true =>
    go_wp2
    go_ret
    exact ⟨rfl, B14.out⟩
  | false =>
  go_wp2_with fail
  refine (heldW A3 n3 c3 d wallL v3 _ (HA3.out.below B14.out) hc3 h3 Hv3.out).mono ?_
  rintro e w15 ⟨rfl, hb⟩
  have B15 := Lib.hid (bstep B14.out hb)
  clear hb B14
  cases v3 with
  | true =>
    go_wp2
    go_ret
    exact ⟨rfl, B15.out⟩
  | false =>
  have wa : wallL ∉ wl a := of_decide_eq_false Hv0.out
  have wb : wallL ∉ wl b := of_decide_eq_false Hv1.out
  obtain ⟨XW, hXW⟩ : ∃ l, X ++ wallL = l := ⟨_, rfl⟩
  obtain ⟨YW, hYW⟩ : ∃ l, Y ++ wallL = l := ⟨_, rfl⟩
  obtain ⟨bs, hbs⟩ : ∃ l, XW ++ U = l := ⟨_, rfl⟩
  obtain ⟨os, hos⟩ : ∃ l, YW ++ U = l := ⟨_, rfl⟩
  obtain ⟨ts, hts⟩ : ∃ l, XW ++ V = l := ⟨_, rfl⟩
  obtain ⟨ys, hys⟩ : ∃ l, YW ++ V = l := ⟨_, rfl⟩
  have cat : ∀ l k r : List UInt8, l ++ k = r → (⟨l.toArray⟩ : ByteArray) ++ ⟨k.toArray⟩ = ⟨r.toArray⟩ := fun l k r h => by
    rw [← h]; ext1; simp
  have R1 := cat X wallL XW hXW
  have R2 := cat Y wallL YW hYW
  unfold wallL at R1 R2
  have R3 := cat XW U bs hbs
  have R4 := cat YW U os hos
  have R5 := cat XW V ts hts
  have R6 := cat YW V ys hys
  have e38 : wallL.length = 38 := rfl
  have lXW : XW.length ≤ 639 := by rw [← hXW, List.length_append]; omega
  have lYW : YW.length ≤ 639 := by rw [← hYW, List.length_append]; omega
  have lbs : bs.length ≤ 1240 := by rw [← hbs, List.length_append]; omega
  have los : os.length ≤ 1240 := by rw [← hos, List.length_append]; omega
  have lts : ts.length ≤ 1240 := by rw [← hts, List.length_append]; omega
  have ebs : bs = walled a c := by rw [← hbs, ← hXW, ← HX.out, ← HU.out]; rfl
  have eos : os = walled b c := by rw [← hos, ← hYW, ← HY.out, ← HU.out]; rfl
  have ets : ts = walled a d := by rw [← hts, ← hXW, ← HX.out, ← HV.out]; rfl
  have eys : ys = walled b d := by rw [← hys, ← hYW, ← HY.out, ← HV.out]; rfl
  have hD0 : DiffC (LinesLaw.lns bs) (LinesLaw.lns os) := by rw [ebs, eos]; exact diff_first (by rw [Hla.out]; exact h0) (by rw [Hlb.out]; exact h1) (by rw [Hlc.out]; exact h2) wa wb
  have hD1 : DiffC (LinesLaw.lns bs) (LinesLaw.lns ts) := by rw [ebs, ets]; exact diff_second (by rw [Hla.out]; exact h0) (by rw [Hlc.out]; exact h2) (by rw [Hld.out]; exact h3)
  have HD0 := Lib.hid hD0
  have HD1 := Lib.hid hD1
  have Hebs := Lib.hid ebs
  have Heos := Lib.hid eos
  have Hets := Lib.hid ets
  have Heys := Lib.hid eys
  clear hXW hYW hbs hos hts hys cat e38 ebs eos ets eys hD0 hD1 wa wb HX HY HU HV kc0 kc1 kc2 kc3 Hv0 Hv1 Hv2 Hv3
  obtain ⟨g1, w16, r1, z1, S1, b16, _⟩ := run_to_bytes (P := Tryd.prog) w15 9 34 5 bs Tryd.underlying9 Tryd.underlying34 Tryd.underlying5
  obtain ⟨g2, w17, r2, z2, S2, b17, _⟩ := run_to_bytes (P := Tryd.prog) w16 9 34 5 os Tryd.underlying9 Tryd.underlying34 Tryd.underlying5
  obtain ⟨g3, w18, r3, z3, S3, b18, _⟩ := run_to_bytes (P := Tryd.prog) w17 9 34 5 ts Tryd.underlying9 Tryd.underlying34 Tryd.underlying5
  have B18 := Lib.hid (bstep (bstep (bstep B15.out b16) b17) b18)
  have HS1 := Lib.hid (S1.below (bstep b17 b18))
  have HS2 := Lib.hid (S2.below b18)
  have HS3 := Lib.hid S3
  clear S1 S2 S3 b16 b17 b18 B15
  go_wp2_with fail
  obtain ⟨r, f, hm⟩ : ∃ r f, BlendLaw.merge bs os ts = (r, f) := ⟨_, _, rfl⟩
  obtain ⟨n, hn⟩ : ∃ n, r.length = n := ⟨_, rfl⟩
  refine (merge_at _ bs.length g1 bs _ os.length g2 os _ ts.length g3 ts r f n _ HS1.out HS2.out HS3.out (by omega) (by omega) (by omega) (hM.step B18.out) HD0.out HD1.out hm hn).mono ?_
  rintro e w19 ⟨A19, c19, rfl, S19, hb⟩
  have B19 := Lib.hid (bstep B18.out hb)
  have HS19 := Lib.hid S19
  have Hm := Lib.hid hm
  clear S19 hb B18 HS1 HS2 HS3 r1 r2 r3 z1 z2 z3 hm hn
  obtain ⟨g1, w20, r1, z1, S1, b20, _⟩ := run_to_bytes (P := Tryd.prog) w19 9 34 5 bs Tryd.underlying9 Tryd.underlying34 Tryd.underlying5
  have B20 := Lib.hid (bstep B19.out b20)
  have HS20 := Lib.hid (HS19.out.below b20)
  have HS1 := Lib.hid S1
  clear S1 b20 B19 HS19
  go_wp2_with fail
  refine (split_any _ bs.length g1 bs _ HS1.out (by omega) (hM.step B20.out)).mono ?_
  rintro e w21 ⟨A21, m21, c21, rfl, hc21, hn21, S21, hb⟩
  have B21 := Lib.hid (bstep B20.out hb)
  have HS2a := Lib.hid (HS20.out.below hb)
  have HL21 := Lib.hid S21
  clear S21 hb B20 HS20 HS1 r1 z1
  obtain ⟨g2, w22, r2, z2, S2, b22, _⟩ := run_to_bytes (P := Tryd.prog) w21 9 34 5 os Tryd.underlying9 Tryd.underlying34 Tryd.underlying5
  have B22 := Lib.hid (bstep B21.out b22)
  have HS22 := Lib.hid (HS2a.out.below b22)
  have HL22 := Lib.hid (HL21.out.below b22)
  have HS2 := Lib.hid S2
  clear S2 b22 B21 HS2a HL21
  go_wp2_with fail
  refine (split_any _ os.length g2 os _ HS2.out (by omega) (hM.step B22.out)).mono ?_
  rintro e w23 ⟨A23, m23, c23, rfl, hc23, hn23, S23, hb⟩
  have B23 := Lib.hid (bstep B22.out hb)
  have HS23 := Lib.hid (HS22.out.below hb)
  have HL23 := Lib.hid (HL22.out.below hb)
  have HM23 := Lib.hid S23
  clear S23 hb B22 HS22 HL22 HS2 r2 z2
  go_wp2_with fail
  refine (HD0.out A21 A23 m21 m23 c21 c23 _ HL23.out HM23.out hc21 hc23).mono ?_
  rintro e w24 ⟨A24, m24, c24, rfl, hO⟩
  obtain ⟨l1, hl1⟩ : ∃ l, LineLaw.diff (LinesLaw.lns bs) (LinesLaw.lns os) = l := ⟨_, rfl⟩
  rw [hl1] at hO
  have B24 := Lib.hid (bstep B23.out hO.2)
  have HS24 := Lib.hid (HS23.out.below hO.2)
  have HK24 := Lib.hid hO.sl
  have Hl1 := Lib.hid hl1
  clear hO hl1 B23 HS23 HL23 HM23 hc21 hc23 hn21 hn23 HD0
  obtain ⟨g1, w25, r1, z1, S1, b25, _⟩ := run_to_bytes (P := Tryd.prog) w24 9 34 5 bs Tryd.underlying9 Tryd.underlying34 Tryd.underlying5
  have B25 := Lib.hid (bstep B24.out b25)
  have HS25 := Lib.hid (HS24.out.below b25)
  have HK25 := Lib.hid (HK24.out.below b25)
  have HS1 := Lib.hid S1
  clear S1 b25 B24 HS24 HK24
  go_wp2_with fail
  refine (split_any _ bs.length g1 bs _ HS1.out (by omega) (hM.step B25.out)).mono ?_
  rintro e w26 ⟨A26, m26, c26, rfl, hc26, hn26, S26, hb⟩
  have B26 := Lib.hid (bstep B25.out hb)
  have HS26 := Lib.hid (HS25.out.below hb)
  have HK26 := Lib.hid (HK25.out.below hb)
  have HL26 := Lib.hid S26
  clear S26 hb B25 HS25 HK25 HS1 r1 z1
  obtain ⟨g2, w27, r2, z2, S2, b27, _⟩ := run_to_bytes (P := Tryd.prog) w26 9 34 5 ts Tryd.underlying9 Tryd.underlying34 Tryd.underlying5
  have B27 := Lib.hid (bstep B26.out b27)
  have HS27 := Lib.hid (HS26.out.below b27)
  have HK27 := Lib.hid (HK26.out.below b27)
  have HL27 := Lib.hid (HL26.out.below b27)
  have HS2 := Lib.hid S2
  clear S2 b27 B26 HS26 HK26 HL26
  go_wp2_with fail
  refine (split_any _ ts.length g2 ts _ HS2.out (by omega) (hM.step B27.out)).mono ?_
  rintro e w28 ⟨A28, m28, c28, rfl, hc28, hn28, S28, hb⟩
  have B28 := Lib.hid (bstep B27.out hb)
  have HS28 := Lib.hid (HS27.out.below hb)
  have HK28 := Lib.hid (HK27.out.below hb)
  have HL28 := Lib.hid (HL27.out.below hb)
  have HM28 := Lib.hid S28
  clear S28 hb B27 HS27 HK27 HL27 HS2 r2 z2
  go_wp2_with fail
  refine (HD1.out A26 A28 m26 m28 c26 c28 _ HL28.out HM28.out hc26 hc28).mono ?_
  rintro e w29 ⟨A29, m29, c29, rfl, hO⟩
  obtain ⟨l2, hl2⟩ : ∃ l, LineLaw.diff (LinesLaw.lns bs) (LinesLaw.lns ts) = l := ⟨_, rfl⟩
  rw [hl2] at hO
  have B29 := Lib.hid (bstep B28.out hO.2)
  have HS29 := Lib.hid (HS28.out.below hO.2)
  have HK29 := Lib.hid (HK28.out.below hO.2)
  have HJ29 := Lib.hid hO.sl
  have Hl2 := Lib.hid hl2
  clear hO hl2 B28 HS28 HK28 HL28 HM28 hc26 hc28 hn26 hn28 HD1
  go_wp2_with fail
  refine (whole_text A0 n0 c0 a _ (HA0.out.below B29.out) hc0 h0).mono ?_
  rintro e w30 ⟨D9, N, k9, rfl, hN, _, hb⟩
  have B30 := Lib.hid (bstep B29.out hb)
  have kc := conv_any (c := c19) (HS29.out.below hb) w30 (Below.refl _ _)
  have HK30 := Lib.hid (HK29.out.below hb)
  have HJ30 := Lib.hid (HJ29.out.below hb)
  have HN := Lib.hid hN
  have hN9 : N ≤ 600 := by rw [hN]; have := Hna.out; have := Hla.out; omega
  have Hc1 := Lib.hid (hks_count HK30.out)
  have Hc2 := Lib.hid (hks_count HJ30.out)
  have hm24 : m24 ≤ 3000 := by
    have q1 := BlendLaw.diff_few (LinesLaw.lns bs) (LinesLaw.lns os)
    rw [Hl1.out, Hc1.out] at q1
    have q2 := LinesLaw.lns_len bs
    have q3 := LinesLaw.lns_len os
    omega
  have hm29 : m29 ≤ 3000 := by
    have q1 := BlendLaw.diff_few (LinesLaw.lns bs) (LinesLaw.lns ts)
    rw [Hl2.out, Hc2.out] at q1
    have q2 := LinesLaw.lns_len bs
    have q3 := LinesLaw.lns_len ts
    omega
  clear hN hb B29 HS29 HK29 HJ29
  go_wp2
  go_loop [20, 21] (fun s20 s21 => ∃ k : Nat, k ≤ m24 ∧ s21 = .int .i64 k ∧ s20 = .bool (p1 N (l1.take k))) (fun _ s21 => m24 - (intOf s21).toNat)
  case atStart => exact ⟨0, Nat.zero_le _, rfl, by rw [List.take_zero]; rfl⟩
  case round =>
    obtain ⟨k, hk, rfl, rfl⟩ := hrel
    by_cases hlt : k < m24
    · obtain ⟨b', off, x, rfl, hb', hx, x0, x1, x2, x3⟩ := HK30.out.hunk hlt
      have Hs := Lib.hid (p1_snoc (N := N) hx)
      clear hx
      obtain ⟨v, hv⟩ : ∃ v, p1 N (l1.take k) = v := ⟨_, rfl⟩
      rw [hv] at Hs ⊢
      clear hv
      have hways : v = false ∨ v = true ∧ decide (x.a1 ≤ N) = false ∨ v = true ∧ decide (x.a1 ≤ N) = true ∧ decide (x.a0 ≤ N) = false ∨ v = true ∧ decide (x.a1 ≤ N) = true ∧ decide (x.a0 ≤ N) = true := by
        cases v <;> cases decide (x.a1 ≤ N) <;> cases decide (x.a0 ≤ N) <;> simp
      rcases hways with rfl | ⟨rfl, d1⟩ | ⟨rfl, d1, d2⟩ | ⟨rfl, d1, d2⟩
      · go_wp2
        go_round
        case rel => exact ⟨k + 1, by omega, by go_num, by rw [Hs.out]; rfl⟩
        case measure => simp [intOf]; omega
      · go_wp2
        go_round
        case rel => exact ⟨k + 1, by omega, by go_num, by rw [Hs.out, d1]; rfl⟩
        case measure => simp [intOf]; omega
      · go_wp2
        go_round
        case rel => exact ⟨k + 1, by omega, by go_num, by rw [Hs.out, d1, d2]; rfl⟩
        case measure => simp [intOf]; omega
      · go_wp2
        go_round
        case rel => exact ⟨k + 1, by omega, by go_num, by rw [Hs.out, d1, d2]; rfl⟩
        case measure => simp [intOf]; omega
    · obtain rfl : k = m24 := by omega
      have hall : l1.take k = l1 := List.take_of_length_le (by rw [Hc1.out]; exact Nat.le_refl _)
      rw [hall]
      clear hall
      obtain ⟨u, hu⟩ : ∃ u, p1 N l1 = u := ⟨_, rfl⟩
      rw [hu]
      have Hu := Lib.hid hu
      clear hu
      go_wp2
      go_loop [20, 22] (fun s20 s22 => ∃ k : Nat, k ≤ m29 ∧ s22 = .int .i64 k ∧ s20 = .bool (u && p2 N (l2.take k))) (fun _ s22 => m29 - (intOf s22).toNat)
      case atStart => exact ⟨0, Nat.zero_le _, rfl, by rw [List.take_zero]; simp [p2]⟩
      case round =>
        obtain ⟨k2, hk2, rfl, rfl⟩ := hrel
        by_cases hlt2 : k2 < m29
        · obtain ⟨b', off, x, rfl, hb', hx, x0, x1, x2, x3⟩ := HJ30.out.hunk hlt2
          have Hs := Lib.hid (p2_snoc (N := N) hx)
          clear hx
          obtain ⟨v, hv⟩ : ∃ v, p2 N (l2.take k2) = v := ⟨_, rfl⟩
          rw [hv] at Hs ⊢
          clear hv
          obtain ⟨v', hv'⟩ : ∃ v', (u && v) = v' := ⟨_, rfl⟩
          rw [hv']
          have Hv' := Lib.hid hv'
          clear hv'
          have hways : v' = false ∨ v' = true ∧ decide (N < x.a0) = false ∨ v' = true ∧ decide (N < x.a0) = true := by
            cases v' <;> cases decide (N < x.a0) <;> simp
          rcases hways with rfl | ⟨rfl, d1⟩ | ⟨rfl, d1⟩
          · go_wp2
            go_round
            case rel => exact ⟨k2 + 1, by omega, by go_num, by rw [Hs.out, ← Bool.and_assoc, Hv'.out]; rfl⟩
            case measure => simp [intOf]; omega
          · go_wp2
            go_round
            case rel => exact ⟨k2 + 1, by omega, by go_num, by rw [Hs.out, ← Bool.and_assoc, Hv'.out, d1]; rfl⟩
            case measure => simp [intOf]; omega
          · go_wp2
            go_round
            case rel => exact ⟨k2 + 1, by omega, by go_num, by rw [Hs.out, ← Bool.and_assoc, Hv'.out, d1]; rfl⟩
            case measure => simp [intOf]; omega
        · obtain rfl : k2 = m29 := by omega
          have hall : l2.take k2 = l2 := List.take_of_length_le (by rw [Hc2.out]; exact Nat.le_refl _)
          rw [hall]
          clear hall
          obtain ⟨v, hv⟩ : ∃ v, (u && p2 N l2) = v := ⟨_, rfl⟩
          rw [hv]
          cases v with
          | false =>
            clear hv
            go_wp2
            go_ret
            exact ⟨rfl, B30.out⟩
          | true =>
            have hres : BlendLaw.merge bs os ts = (ys, false) := by
              simp only [Bool.and_eq_true] at hv
              have q1 := hv.1
              rw [← Hu.out] at q1
              have q2 := hv.2
              have g1 := BlendLaw.all_of q1
              have g2 := BlendLaw.all_of q2
              have f1 := Hl1.out
              have f2 := Hl2.out
              rw [Hebs.out, Heos.out, walled_lns, walled_lns] at f1
              rw [Hebs.out, Hets.out, walled_lns, walled_lns] at f2
              rw [Hebs.out, Heos.out, Hets.out, Heys.out]
              refine merge_walled a b c d (fun h hh => ?_) (fun h hh => ?_)
              · rw [f1] at hh
                have := g1 h hh
                simp only [Bool.and_eq_true, decide_eq_true_eq] at this
                rw [← HN.out]; exact this.1
              · rw [f2] at hh
                have := g2 h hh
                simp only [decide_eq_true_eq] at this
                rw [← HN.out]; exact this
            have e1 := Hm.out
            rw [hres] at e1
            injection e1 with e1 e2
            subst e1 e2
            clear hv hres
            go_wp2
            go_ret
            exact ⟨rfl, B30.out⟩
theorem blendApart_law (A0 : Option Addr) (n0 c0 : Nat) (a : List UInt8) (A1 : Option Addr) (n1 c1 : Nat) (b : List UInt8) (A2 : Option Addr) (n2 c2 : Nat) (c : List UInt8) (A3 : Option Addr) (n3 c3 : Nat) (d : List UInt8) (w : World) (hA0 : Sl w 1 A0 n0 (u8s a)) (hc0 : n0 ≤ c0) (_hr0 : c0 ≤ 140737488351232) (hA1 : Sl w 1 A1 n1 (u8s b)) (hc1 : n1 ≤ c1) (_hr1 : c1 ≤ 140737488351232)
    (hA2 : Sl w 1 A2 n2 (u8s c)) (hc2 : n2 ≤ c2) (_hr2 : c2 ≤ 140737488351232) (hA3 : Sl w 1 A3 n3 (u8s d)) (hc3 : n3 ≤ c3) (_hr3 : c3 ≤ 140737488351232) (hM : MaxL w) :
    Calls Tryd.prog 11 #[.slice A0 n0 c0, .slice A1 n1 c1, .slice A2 n2 c2, .slice A3 n3 c3] w fun e w' => e = .returned (.bool true) ∧ Below w.heap.size w w' := by
  by_cases h : 600 < n0 ∨ 600 < n1 ∨ 600 < n2 ∨ 600 < n3
  · exact blendApart_far A0 A1 A2 A3 n0 n1 n2 n3 c0 c1 c2 c3 w hM h
  · exact blendApart_near A0 A1 A2 A3 n0 n1 n2 n3 c0 c1 c2 c3 a b c d w hA0 hA1 hA2 hA3 hc0 hc1 hc2 hc3 (by omega) (by omega) (by omega) (by omega) hM
end Go.Proofs.YtpnogcblafmaiaaDoor

/-
  refs.Decode: a book's bytes are read. Conditions: no more than 900000000 bytes; what they make, where nothing is wrong, is a book that may be; MaxLen holds an int.
-/
import Derived.Test.YtegehaokfcamfaaGreatDoorRefsDec1
import Derived.Test.YtegehaokfcamfaaGreatDoorRefsDec2
namespace Go.Proofs.YtegehaokfcamfaaGreatDoor
open Go.RowKit
open RefsLaw (named okc Val Chg Txn there rightV zv rightT okChs goodC Refs Book Inv)

theorem bookB_len {ns : List (List UInt8)} {bk : Book} (hI : Inv bk) (hN : IsNames bk.f ns) (h1 : ns.length ≤ 1000000) (h2 : bk.txns.length ≤ 1000) : (bookB ns bk).length ≤ 18 + ns.length * 500 + bk.txns.length * 3400000 := by
  have a := fm_len (l := ns) (g := refB bk.f) (b := 500) (fun s hs => by
    rcases hI.val s with h | h
    · exact absurd h ((hN.2 s).1 hs).2
    · exact refB_len h.1 h.2)
  have b := fm_len (l := bk.txns) (g := txB) (b := 3400000) (fun t ht => txB_len (hI.txn t ht))
  have c := putNum_le ns.length (by omega)
  have d := putNum_le bk.txns.length (by omega)
  unfold bookB
  simp only [List.length_append]
  omega
theorem goF_end {k : Nat} {f : List UInt8 → Option Val} {r : Rd} (h : k = 0 ∨ r.bad = true) : goF k f r = (f, r) := by
  cases k with
  | zero => rfl
  | succ k => rcases h with h | h
              · cases h
              · rw [goF, if_pos h]
theorem goT_end {k : Nat} {l : List Txn} {r : Rd} (h : k = 0 ∨ r.bad = true) : goT k l r = (l, r) := by
  cases k with
  | zero => rfl
  | succ k => rcases h with h | h
              · cases h
              · rw [goT, if_pos h]
theorem mark_bad {r : Rd} {b : Bool} (h : (r.mark b).bad = false) : r.bad = false := by
  unfold Rd.mark at h
  simp only [Bool.or_eq_false_iff] at h
  exact h.1
/-- while refs are read -/
structure D1 (w : World) (R p m B1 B2 n N : Nat) (r0 : Rd) (k : Nat) (r : Rd) (W : World) : Prop where
  rd : RdAt W R w.heap.size r
  b1 : Blk W B1 84 #[.pointer (some ⟨R, 0, none⟩)]
  b2 : Blk W B2 27 #[.pointer (some ⟨p, 0, none⟩)]
  bp : Blk W p 73 #[.map (some m), .slice none 0 0]
  st : ∃ cnt f, MapIs refsC W m cnt f ∧ cnt + k = N ∧ goF k f r = goF N (fun _ => none) r0 ∧ (r.bad = false → cnt + r.b.length ≤ n) ∧ cnt ≤ n + 1
  len : r.b.length ≤ n
  be : Below w.heap.size w W
/-- while transactions are read -/
structure D2 (w : World) (R p m B1 B2 n cnt : Nat) (f : List UInt8 → Option Val) (N : Nat) (r0 : Rd) (k : Nat) (r : Rd) (W : World) : Prop where
  rd : RdAt W R w.heap.size r
  b1 : Blk W B1 84 #[.pointer (some ⟨R, 0, none⟩)]
  b2 : Blk W B2 27 #[.pointer (some ⟨p, 0, none⟩)]
  mp : MapIs refsC W m cnt f
  st : ∃ n2 A2 c2 xs, Blk W p 73 #[.map (some m), .slice A2 n2 c2] ∧ W.ownsRow w.heap.size 37 4 (.slice A2 n2 c2) n2 (txs xs) ∧
    (∀ y ∈ xs, SlT (fun k => w.heap.size ≤ k ∧ k < W.heap.size) 58 W 5 y.A y.n (chs y.chs)) ∧ goT k (xs.map TxG.txn) r = goT N [] r0 ∧ (r.bad = false → n2 + r.b.length ≤ n) ∧ n2 ≤ n + 1
  len : r.b.length ≤ n
  be : Below w.heap.size w W

theorem D1.go {w W W' : World} {R p m B1 B2 n N k cnt : Nat} {r0 r : Rd} {f : List UInt8 → Option Val} (h : D1 w R p m B1 B2 n N r0 (k + 1) r W) (hb : r.bad = false) (hc : cnt + (k + 1) = N) (hgo : goF (k + 1) f r = goF N (fun _ => none) r0) (hl : cnt + r.b.length ≤ n)
    (hrd : RdAt W' R w.heap.size r.text.2.value.2) (hm : MapIs refsC W' m (cnt + 1) (upd f r.text.1 (some r.text.2.value.1))) (hf : Fr (fun k => k = R ∨ k = m) W W') (hmm : m ≠ R) (hRw : w.heap.size ≤ R) (hmw : w.heap.size ≤ m) (hm0 : MapIs refsC W m cnt f) :
    (named r.text.1 && there r.text.2.value.1) = true ∧ D1 w R p m B1 B2 n N r0 k r.text.2.value.2 W' ∨ (named r.text.1 && there r.text.2.value.1) = false ∧ D1 w R p m B1 B2 n N r0 k (r.text.2.value.2.mark false) (W'.setCell ⟨R, 1, none⟩ (I 2)) := by
  obtain ⟨_, _, _, hBR, _⟩ := h.rd
  have n1 : B1 ≠ R := h.b1.ne_ hBR (by decide)
  have n2 : B2 ≠ R := h.b2.ne_ hBR (by decide)
  have n3 : p ≠ R := h.bp.ne_ hBR (by decide)
  have m1 : B1 ≠ m := fun e => hm0.ne_blk h.b1 e.symm
  have m2 : B2 ≠ m := fun e => hm0.ne_blk h.b2 e.symm
  have m3 : p ≠ m := fun e => hm0.ne_blk h.bp e.symm
  have k1 := hf.blk h.b1 (fun e => Or.elim e n1 m1)
  have k2 := hf.blk h.b2 (fun e => Or.elim e n2 m2)
  have k3 := hf.blk h.bp (fun e => Or.elim e n3 m3)
  have hbe : Below w.heap.size w W' := h.be.trans (hf.below h.be.size (fun k e => by rcases e with e | e <;> omega))
  have t1 := text_len r
  have t2 := value_len r.text.2
  rw [goF, if_neg (by rw [hb]; simp)] at hgo
  cases hn : named r.text.1 && there r.text.2.value.1 with
  | true =>
    rw [hn, Rd.mark_true] at hgo
    exact .inl ⟨rfl, hrd, k1, k2, k3, ⟨cnt + 1, _, hm, by omega, hgo, fun h2 => by have := t2.2.1 h2; omega, by omega⟩, by have := h.len; omega, hbe⟩
  | false =>
    rw [hn] at hgo
    have hR1 := hrd.mark
    refine .inr ⟨rfl, hR1, k1.far (p := ⟨R, 1, none⟩) n1 _, k2.far (p := ⟨R, 1, none⟩) n2 _, k3.far (p := ⟨R, 1, none⟩) n3 _, ⟨cnt + 1, _, hm.far (p := ⟨R, 1, none⟩) hmm _, by omega, hgo, fun h2 => ?_, by omega⟩, ?_, hbe.setCell hRw _⟩
    · simp [Rd.mark] at h2
    · show r.text.2.value.2.b.length ≤ n
      have := h.len; omega

theorem D2.go {w W W' : World} {R p m B1 B2 n cnt N k n2 c2 : Nat} {A2 : Option Addr} {xs : List TxG} {r0 r : Rd} {f : List UInt8 → Option Val} (h : D2 w R p m B1 B2 n cnt f N r0 (k + 1) r W) (hb : r.bad = false) (hp : Blk W p 73 #[.map (some m), .slice A2 n2 c2]) (ho : W.ownsRow w.heap.size 37 4 (.slice A2 n2 c2) n2 (txs xs))
    (hgo : goT (k + 1) (xs.map TxG.txn) r = goT N [] r0) (hl : n2 + r.b.length ≤ n)
    (hrd : RdAt W' R w.heap.size r.txn.2) {x : TxG} {A' : Option Addr} {c' : Nat} (hx : x.txn = r.txn.1) (hp' : Blk W' p 73 #[.map (some m), .slice A' (n2 + 1) c'])
    (ho' : W'.ownsRow w.heap.size 37 4 (.slice A' (n2 + 1) c') (n2 + 1) (txs (xs ++ [x]))) (hch : ∀ y ∈ xs ++ [x], SlT (fun k => w.heap.size ≤ k ∧ k < W'.heap.size) 58 W' 5 y.A y.n (chs y.chs))
    (hf : Fr (fun k => k = R ∨ k = p ∨ (Value.slice A2 n2 c2).ownBlock = some k) W W') (hRw : w.heap.size ≤ R) (hpw : w.heap.size ≤ p) :
    rightT r.txn.1 = true ∧ D2 w R p m B1 B2 n cnt f N r0 k r.txn.2 W' ∨ rightT r.txn.1 = false ∧ D2 w R p m B1 B2 n cnt f N r0 k (r.txn.2.mark false) (W'.setCell ⟨R, 1, none⟩ (I 2)) := by
  obtain ⟨_, _, _, hBR, _⟩ := h.rd
  have n1 : B1 ≠ R := h.b1.ne_ hBR (by decide)
  have n2' : B2 ≠ R := h.b2.ne_ hBR (by decide)
  have n3 : p ≠ R := hp.ne_ hBR (by decide)
  have m1 : B1 ≠ p := h.b1.ne_ hp (by decide)
  have m2 : B2 ≠ p := h.b2.ne_ hp (by decide)
  have q1 : m ≠ R := h.mp.ne_blk hBR
  have q2 : m ≠ p := h.mp.ne_blk hp
  have k1 := hf.blk h.b1 (fun e => by
    rcases e with e | e | e
    · exact n1 e
    · exact m1 e
    · exact own_off ho h.b1 (by decide) _ e rfl)
  have k2 := hf.blk h.b2 (fun e => by
    rcases e with e | e | e
    · exact n2' e
    · exact m2 e
    · exact own_off ho h.b2 (by decide) _ e rfl)
  have k3 := h.mp.fr hf (fun e => by
    rcases e with e | e | e
    · exact q1 e
    · exact q2 e
    · exact h.mp.ne_own ho e.symm)
  have hbe : Below w.heap.size w W' := h.be.trans (hf.below h.be.size (fun k e => by
    rcases e with e | e | e
    · omega
    · omega
    · exact (ho.lt k e).1))
  obtain ⟨_, hBR'⟩ : ∃ cs, Blk W' R 86 cs := by obtain ⟨_, _, _, hBR', _⟩ := hrd; exact ⟨_, hBR'⟩
  have t1 := txn_len r
  rw [goT, if_neg (by rw [hb]; simp), ← hx] at hgo
  have e1 : xs.map TxG.txn ++ [x.txn] = (xs ++ [x]).map TxG.txn := by simp
  rw [e1, hx] at hgo
  cases hn : rightT r.txn.1 with
  | true =>
    rw [hn, Rd.mark_true] at hgo
    exact .inl ⟨rfl, hrd, k1, k2, k3, ⟨n2 + 1, A', c', _, hp', ho', hch, hgo, fun h2 => by have := t1.2.1 h2; omega, by omega⟩, by have := h.len; omega, hbe⟩
  | false =>
    rw [hn] at hgo
    have hR1 := hrd.mark
    refine .inr ⟨rfl, hR1, k1.far (p := ⟨R, 1, none⟩) n1 _, k2.far (p := ⟨R, 1, none⟩) n2' _, k3.far (p := ⟨R, 1, none⟩) q1 _, ⟨n2 + 1, A', c', _, hp'.far (p := ⟨R, 1, none⟩) n3 _, own_far ho' (fun e => own_off ho' hBR' (by decide) R e.symm rfl) _, fun y hy => ?_, hgo, fun h2 => ?_, by omega⟩, ?_, hbe.setCell hRw _⟩
    · exact (((hch y hy).keep ((KeepT.refl _ W').setCell (p := ⟨R, 1, none⟩) hBR' (by decide) rfl _))).weak (fun k hk h => ⟨h.1, by rw [setCell_size]; exact h.2⟩)
    · simp [Rd.mark] at h2
    · show r.txn.2.b.length ≤ n
      have := h.len; omega
theorem names_eq {f : Refs} {a b : List (List UInt8)} (ha : IsNames f a) (hb : IsNames f b) : a = b := by
  refine List.Perm.eq_of_pairwise (le := fun x y => x ≤ y) (fun a b _ _ h1 h2 => List.le_antisymm h1 h2) (ha.1.imp (fun h => List.le_of_lt h)) (hb.1.imp (fun h => List.le_of_lt h)) ?_
  have n1 : a.Nodup := List.Pairwise.imp (R := fun x y => x < y) (fun {x y} h e => by subst e; exact List.lt_irrefl _ h) ha.1
  have n2 : b.Nodup := List.Pairwise.imp (R := fun x y => x < y) (fun {x y} h e => by subst e; exact List.lt_irrefl _ h) hb.1
  exact (List.perm_ext_iff_of_nodup n1 n2).2 (fun s => (ha.2 s).trans (hb.2 s).symm)
/-- what Decode returns -/
def RetDec (w : World) (b : List UInt8) (ns : List (List UInt8)) (bk : Book) (z : Nat) (e : Ending) (w' : World) : Prop :=
  (e = .returned (.tuple #[.pointer none, I 2]) ∧ ((decT b).2.bad = true ∨ bookB ns bk ≠ b) ∧ Below w.heap.size w w') ∨
  (∃ q, e = .returned (.tuple #[.pointer (some ⟨q, 0, none⟩), I 0]) ∧ (decT b).2.bad = false ∧ bookB ns bk = b ∧ BookAt w' q (fun k => w.heap.size ≤ k ∧ k < w'.heap.size) bk z ∧ Below w.heap.size w w')
set_option maxHeartbeats 4000000 in
set_option maxRecDepth 100000 in
theorem decode_any (A : Option Addr) (n c : Nat) (b : List UInt8) (ns : List (List UInt8)) (bk : Book) (z : Nat) (w : World) (hA : Sl w 1 A n (u8s b)) (hc : n ≤ c) (hn : n ≤ 900000000) (hM : MaxL w) (hI : Inv bk) (hN : IsNames bk.f ns) (hz : z * 4096 ≤ 1000000) (hnz : ns.length ≤ z * 4096) (htz : bk.txns.length ≤ z)
    (hg : (decT b).2.bad = false → (decF b).1 = optF bk.f ∧ (decT b).1 = bk.txns ∧ (Rd.num ⟨b, false⟩).1 ≤ z * 4096) :
    Calls Tryz.prog 16 #[.slice A n c] w (RetDec w b ns bk z) := by
  have hbl := u8s_len hA
  have hgl := hM.lt
  have HM := Lib.hid hM
  have HA := Lib.hid hA
  have HI := Lib.hid hI
  have HN := Lib.hid hN
  have HG := Lib.hid hg
  have HLen := Lib.hid (bookB_len hI hN (by omega) (by omega))
  obtain ⟨R, hR⟩ : ∃ R, R = w.heap.size := ⟨_, rfl⟩
  have hRw : w.heap.size ≤ R := by omega
  obtain ⟨wa, hwa⟩ : ∃ wa, wa = (w.alloc (.cells #[.slice A n c, I 0] 86)).alloc (.cells #[.pointer (some ⟨R, 0, none⟩)] 84) := ⟨_, rfl⟩
  have hba : Below w.heap.size w wa := by rw [hwa]; exact balloc (balloc (Below.refl _ w) _) _
  have hza : wa.heap.size = R + 2 := by rw [hwa, hR, World.size_alloc, World.size_alloc]
  have hb1 : Blk wa (R + 1) 84 #[.pointer (some ⟨R, 0, none⟩)] := by
    rw [hwa, hR]
    have := Blk.new (w.alloc (.cells #[.slice A n c, I 0] 86)) 84 #[.pointer (some ⟨w.heap.size, 0, none⟩)]
    rwa [World.size_alloc] at this
  have hrd : RdAt wa R w.heap.size ⟨b, false⟩ := by
    rw [hwa, hR]
    refine ⟨A, n, c, (Blk.new w _ _).alloc _, (hA.alloc _).alloc _, hc, by omega, fun h0 a ha => .inl ?_, Nat.le_refl _⟩
    obtain ⟨g, off, e, hg, _⟩ := hA.2 h0
    rw [e] at ha; cases ha
    exact hg
  have HBa := Lib.hid hba
  have HB1 := Lib.hid hb1
  have HRD := Lib.hid hrd
  have HZA := Lib.hid hza
  have HWA := Lib.hid hwa
  have HRR := Lib.hid hR.symm
  have CN := Lib.hid new0_any
  clear hA hM hI hN hg hba hb1 hrd hza hwa hR
  go_enter Tryz.func16, Tryz.ntmps16
  go_wp2_with fail
  rw [HRR.out, ← HWA.out]
  refine (CN.out wa).mono ?_
  rintro e w1 ⟨p, m, rfl, hp1, hm1, hpz, hmz, b1⟩
  obtain ⟨B2, hB2⟩ : ∃ B2, B2 = w1.heap.size := ⟨_, rfl⟩
  obtain ⟨w2, hw2⟩ : ∃ w2, w2 = w1.alloc (.cells #[.pointer (some ⟨p, 0, none⟩)] 27) := ⟨_, rfl⟩
  have b2 : Below w1.heap.size w1 w2 := by rw [hw2]; exact balloc (Below.refl _ w1) _
  have hb2 : Blk w2 B2 27 #[.pointer (some ⟨p, 0, none⟩)] := by rw [hw2, hB2]; exact Blk.new w1 _ _
  have b12 := bstep b1 b2
  have HW2 := Lib.hid hw2
  have HB2' := Lib.hid hB2.symm
  have HBe2 := Lib.hid (bstep HBa.out b12)
  have HRD2 := Lib.hid (HRD.out.step b12)
  have HB12 := Lib.hid (HB1.out.step b12)
  have HB22 := Lib.hid hb2
  have HP2 := Lib.hid (hp1.step b2)
  have HM2 := Lib.hid (hm1.step b2)
  have hza := HZA.out
  have hmR : m ≠ R := by omega
  have hmw : w.heap.size ≤ m := by omega
  have hpw : w.heap.size ≤ p := by omega
  have hl0 := num_len ⟨b, false⟩
  clear hp1 hm1 b1 hw2 b2 hb2 hB2 b12
  have C1 := Lib.hid (many_any R w.heap.size 34 #[.pointer (some ⟨R + 1, 0, none⟩), .pointer (some ⟨B2, 0, none⟩)] ⟨b, false⟩ w2 HRD2.out (enters_of Tryz.func34 (by kernel_rfl) rfl) (D1 w R p m (R + 1) B2 n (Rd.num ⟨b, false⟩).1 (Rd.num ⟨b, false⟩).2)
    (fun w3 h3 f3 => by
      have n1 : R + 1 ≠ R := by omega
      obtain ⟨_, _, _, hBR, _⟩ := HRD2.out
      exact ⟨h3, f3.blk HB12.out n1, f3.blk HB22.out (HB22.out.ne_ hBR (by decide)), f3.blk HP2.out (HP2.out.ne_ hBR (by decide)), ⟨0, _, HM2.out.fr f3 hmR, by omega, rfl, fun _ => by have : (Rd.num ⟨b, false⟩).2.b.length ≤ b.length := hl0; omega, by omega⟩, by have : (Rd.num ⟨b, false⟩).2.b.length ≤ b.length := hl0; omega, HBe2.out.trans (f3.below HBe2.out.size (fun k e => by omega))⟩)
    (fun k r w h => h.rd)
    (fun k r W hp hb => by
      obtain ⟨cnt, f, hm, hcc, hgo, hl, hcn⟩ := hp.st
      have hl' := hl hb
      refine (dec1_any R w.heap.size p m cnt (R + 1) B2 (.slice none 0 0) f r W hp.rd hp.b1 hp.b2 hp.bp hm (Nat.lt_of_le_of_lt (show cnt ≤ 900000001 by omega) (by decide)) (HM.out.step hp.be) hgl hmw).mono ?_
      rintro e W' ⟨rfl, h1, h2, h3⟩
      rcases D1.go hp hb hcc hgo hl' h1 h2 h3 hmR hRw hmw hm with ⟨e1, h4⟩ | ⟨e1, h4⟩
      · exact ⟨true, _, by rw [e1], h1, fun _ => h4, fun h => by cases h⟩
      · exact ⟨false, _, by rw [e1], h1, (fun h => by cases h), fun _ => h4⟩))
  have c1 := HB12.out.cell
  rw [HW2.out] at c1
  clear hza hl0
  go_wp2_with fail
  rw [← HW2.out, HB2'.out]
  refine C1.out.mono ?_
  rintro e w3 ⟨rfl, k, r1, hst, hk⟩
  obtain ⟨cnt, f, hm3, hcc, hgo, _, _⟩ := hst.st
  have hdf : decF b = (f, r1) := by
    show goF _ _ _ = _
    rw [← hgo, goF_end hk]
  have HDF := Lib.hid hdf
  have HC := Lib.hid hcc
  have hl1 := num_len r1
  have hl2 := hst.len
  have c3 := hst.b1.cell
  have HST := Lib.hid hst
  have HM3 := Lib.hid hm3
  clear c1 C1 hgo hk hdf hst hm3
  have C2 := Lib.hid (many_any R w.heap.size 37 #[.pointer (some ⟨R + 1, 0, none⟩), .pointer (some ⟨B2, 0, none⟩)] r1 w3 HST.out.rd (enters_of Tryz.func37 (by kernel_rfl) rfl) (D2 w R p m (R + 1) B2 n cnt f r1.num.1 r1.num.2)
    (fun w4 h4 f4 => by
      obtain ⟨_, _, _, hBR, _⟩ := HST.out.rd
      exact ⟨h4, f4.blk HST.out.b1 (by omega), f4.blk HST.out.b2 (HST.out.b2.ne_ hBR (by decide)), HM3.out.fr f4 hmR, ⟨0, none, 0, [], f4.blk HST.out.bp (HST.out.bp.ne_ hBR (by decide)), World.ownsRow_nil _ _ _ _, by simp, rfl, fun _ => by omega, by omega⟩, by omega, HST.out.be.trans (f4.below HST.out.be.size (fun k e => by omega))⟩)
    (fun k r w h => h.rd)
    (fun k r W hp hb => by
      obtain ⟨n2, A2, c2, xs, hB, ho, hch, hgo, hl, hcn⟩ := hp.st
      have hl' := hl hb
      refine (dec2_any R w.heap.size p (R + 1) B2 n2 c2 A2 (.map (some m)) xs r W hp.rd (by have := hp.len; omega) hp.b1 hp.b2 hB ho hch (by omega) (HM.out.step hp.be) hgl hpw).mono ?_
      rintro e W' ⟨rfl, h1, ⟨x, A', c', hx, h2, h3, h4⟩, h5⟩
      rcases D2.go hp hb hB ho hgo hl' h1 hx h2 h3 h4 h5 hRw hpw with ⟨e1, h6⟩ | ⟨e1, h6⟩
      · exact ⟨true, _, by rw [e1], h1, fun _ => h6, fun h => by cases h⟩
      · exact ⟨false, _, by rw [e1], h1, (fun h => by cases h), fun _ => h6⟩))
  clear hl1 hl2
  go_wp2_with fail
  refine C2.out.mono ?_
  rintro e w4 ⟨rfl, k, r2, hst, hk⟩
  obtain ⟨n2, A2, c2, xs, hB, ho, hch, hgo, _, _⟩ := hst.st
  have hdt : decT b = (xs.map TxG.txn, r2) := by
    show goT _ _ _ = _
    rw [HDF.out]
    show goT r1.num.1 [] r1.num.2 = _
    rw [← hgo, goT_end hk]
  have HDT := Lib.hid hdt
  have c4 := hst.b1.cell
  have c5 := hst.b2.cell
  have HST2 := Lib.hid hst
  have hbe := Lib.hid hst.be
  obtain ⟨_, _, _, hBR, _⟩ := hst.rd
  have c6 := hBR.cell
  have hBk : r2.bad = false → BookAt w4 p (fun k => w.heap.size ≤ k ∧ k < w4.heap.size) bk z := by
    intro hb
    obtain ⟨g1, g2, g3⟩ := HG.out (by rw [hdt]; exact hb)
    rw [HDF.out] at g1
    rw [hdt] at g2
    simp only at g1 g2
    have hx : xs.length = n2 := txs_count (Sl.of_own ho)
    exact ⟨m, A2, n2, c2, xs, cnt, hB, by rw [← g1]; exact hst.mp, own_mono ho (Nat.zero_le _), ⟨hpw, hB.lt⟩, ⟨hmw, hst.mp.lt⟩, fun g hg => ho.lt g hg, g2, hch, HI.out, by have := HC.out; omega, by rw [← hx, ← List.length_map (f := TxG.txn), g2]; exact htz⟩
  have HBK := Lib.hid hBk
  clear c3 C2 hgo hk hdt hst hB ho hch hBR hBk
  obtain ⟨rb, bad⟩ := r2
  cases bad
  · have hbk := HBK.out rfl
    have C9 := Lib.hid (encode_any w4 p _ bk z hbk hz)
    have HBK4 := Lib.hid hbk
    clear hbk
    rcases hq : decide (bookB ns bk = b) with _ | _
    all_goals
      have Hq := Lib.hid hq
      clear hq
      go_wp2_with (first
        | (go_at_call 12; refine C9.out.mono ?_; rintro e w9 ⟨ns', hN', _, A9, m9, c9, rfl, hS9, _, b9⟩; obtain rfl := names_eq HN.out hN'; have S9 := Lib.hid hS9; have B9 := Lib.hid (bstep hbe.out b9); have J9 := Lib.hid (HBK4.out.step b9); have Z9 := Lib.hid b9.size; have d9 := (HST2.out.b2.step b9).cell; clear hS9 b9 hN')
        | (go_at_call 39; refine (equalB_any A9 A m9 n c9 c _ b w9 S9.out (HA.out.below B9.out) (by have h1 := u8s_len S9.out; have h2 := HLen.out; omega)).mono ?_; rintro e wa ⟨he, mm, rfl⟩; rw [Hq.out] at he; subst he))
    · refine bodyPost_ret (v := .tuple #[.pointer none, I 2]) (by simp [results, Tryz.results16, go_sem]) rfl ?_
      exact .inl ⟨rfl, .inr (of_decide_eq_false Hq.out), below_drewN B9.out _⟩
    · refine bodyPost_ret (v := .tuple #[.pointer (some ⟨p, 0, none⟩), I 0]) (by simp [results, Tryz.results16, go_sem]) rfl ?_
      exact .inr ⟨p, rfl, by rw [HDT.out], of_decide_eq_true Hq.out, (J9.out.step (below_drewN (Below.refl _ _) _)).weak (fun k _ h => ⟨h.1, Nat.lt_of_lt_of_le h.2 Z9.out⟩) (Nat.le_refl _), below_drewN B9.out _⟩
  · go_wp2
    refine bodyPost_ret (v := .tuple #[.pointer none, I 2]) (by simp [results, Tryz.results16, go_sem]) rfl ?_
    exact .inl ⟨rfl, .inl (by rw [HDT.out]), hbe.out⟩
end Go.Proofs.YtegehaokfcamfaaGreatDoor

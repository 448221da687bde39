/-
  The bytes of a book: refs.texts, refs.Book.Encode. Condition: the book lies in its home.
-/
import Derived.Test.YtegehaokfcamfaaGreatDoorBytes
import Derived.Test.YtegehaokfcamfaaGreatDoorKitZ
import Derived.Test.YtegehaokfcamfaaGreatDoorRefsCopyB
namespace Go.Proofs.YtegehaokfcamfaaGreatDoor
open Go.RowKit
open RefsLaw (named okc Val Chg Txn there rightV zv rightT okChs goodC Refs Book Inv)

/-- a text's bytes; some texts' -/
def txt1 (s : List UInt8) : List UInt8 := putNum s.length ++ s
def txtB (l : List (List UInt8)) : List UInt8 := l.flatMap txt1
def chB (c : Chg) : List UInt8 := txtB [c.ref, c.old.id, c.old.name, c.new.id, c.new.name]
def txB (t : Txn) : List UInt8 := ((txtB [t.who, t.text] ++ putNum t.stamp.toNat) ++ putNum t.chs.length) ++ t.chs.flatMap chB
def refB (f : Refs) (s : List UInt8) : List UInt8 := txtB [s, (f s).id, (f s).name]
/-- a book's bytes: its names rising, its transactions -/
def bookB (ns : List (List UInt8)) (bk : Book) : List UInt8 := ((putNum ns.length ++ ns.flatMap (refB bk.f)) ++ putNum bk.txns.length) ++ bk.txns.flatMap txB

theorem fm_snoc {α β : Type} {g : α → List β} {l : List α} {k : Nat} {x : α} (h : l[k]? = some x) : (l.take (k + 1)).flatMap g = (l.take k).flatMap g ++ g x := by
  rw [List.take_add_one, h]
  simp
theorem fm_take {α β : Type} {g : α → List β} {l : List α} {k : Nat} {x : α} (h : l[k]? = some x) : ((l.take k).flatMap g).length + (g x).length ≤ (l.flatMap g).length := by
  have h1 : l.flatMap g = (l.take (k + 1)).flatMap g ++ (l.drop (k + 1)).flatMap g := by rw [← List.flatMap_append, List.take_append_drop]
  rw [h1, fm_snoc h, List.length_append, List.length_append]
  omega
theorem fm_len {α β : Type} {g : α → List β} {b : Nat} : ∀ {l : List α}, (∀ x ∈ l, (g x).length ≤ b) → (l.flatMap g).length ≤ l.length * b
  | [], _ => by simp
  | x :: l, h => by
    rw [List.flatMap_cons, List.length_append, List.length_cons, Nat.succ_mul]
    have h1 := h x (by simp)
    have h2 := fm_len (l := l) (fun y hy => h y (List.mem_cons_of_mem _ hy))
    omega
theorem putNum_le (n : Nat) (h : n ≤ 1099511627776) : (putNum n).length ≤ 9 := putNum_len_le (by unfold top62; omega)
theorem txt1_len (s : List UInt8) (h : s.length ≤ 1099511627776) : (txt1 s).length ≤ 9 + s.length := by
  unfold txt1
  rw [List.length_append]
  have := putNum_le s.length h
  omega
theorem txt1_pos (s : List UInt8) : s.length + 1 ≤ (txt1 s).length := by
  unfold txt1
  rw [List.length_append]
  have := putNum_len_pos s.length
  omega
theorem txtB_cons (s : List UInt8) (l : List (List UInt8)) : txtB (s :: l) = txt1 s ++ txtB l := by simp [txtB]
theorem txtB_nil : txtB [] = [] := rfl
/-- what is known of a value that may be -/
theorem rightV_len {v : Val} (h : rightV v = true) : v.id.length ≤ 32 ∧ v.name.length ≤ 200 := by
  unfold rightV at h
  simp only [Bool.or_eq_true, decide_eq_true_eq] at h
  rcases h with h | h
  · rw [h]; exact ⟨by decide, by decide⟩
  · rcases (there_iff v).1 h with ⟨h1, h2⟩ | ⟨h1, h2⟩
    · rw [h2]; exact ⟨by omega, Nat.zero_le _⟩
    · rw [h1]; exact ⟨Nat.zero_le _, named_len h2⟩
theorem chB_len {c : Chg} (h : goodC c = true) : (chB c).length ≤ 800 := by
  simp only [goodC, Bool.and_eq_true] at h
  obtain ⟨⟨⟨h1, h2⟩, h3⟩, _⟩ := h
  have a := named_len h1
  have b := rightV_len h2
  have d := rightV_len h3
  have e1 := txt1_len c.ref (by omega)
  have e2 := txt1_len c.old.id (by omega)
  have e3 := txt1_len c.old.name (by omega)
  have e4 := txt1_len c.new.id (by omega)
  have e5 := txt1_len c.new.name (by omega)
  unfold chB
  simp only [txtB_cons, txtB_nil, List.length_append, List.length_nil]
  omega
theorem rightT_parts {t : Txn} (h : rightT t = true) : okChs [] t.chs = true ∧ t.who.length ≤ 1000 ∧ t.text.length ≤ 1000 ∧ t.stamp = (t.stamp.toNat : Int) ∧ t.stamp.toNat ≤ 1099511627776 ∧ 1 ≤ t.chs.length ∧ t.chs.length ≤ 4096 := by
  simp only [rightT, Bool.and_eq_true, decide_eq_true_eq] at h
  obtain ⟨⟨⟨⟨⟨⟨h1, h2⟩, h3⟩, h4⟩, h5⟩, h6⟩, h7⟩ := h
  exact ⟨h1, h2, h3, by omega, by omega, h6, h7⟩
theorem txB_len {t : Txn} (h : rightT t = true) : (txB t).length ≤ 3400000 := by
  obtain ⟨h1, h2, h3, _, h5, _, h7⟩ := rightT_parts h
  have a := fm_len (l := t.chs) (g := chB) (b := 800) (fun c hc => chB_len (RefsLaw.okChs_good h1 c hc).1)
  have e1 := txt1_len t.who (by omega)
  have e2 := txt1_len t.text (by omega)
  have e3 := putNum_le t.stamp.toNat h5
  have e4 := putNum_le t.chs.length (by omega)
  unfold txB
  simp only [txtB_cons, txtB_nil, List.length_append, List.length_nil]
  omega
theorem refB_len {f : Refs} {s : List UInt8} (h : named s = true) (hv : there (f s) = true) : (refB f s).length ≤ 500 := by
  have a := named_len h
  have b := rightV_len (v := f s) (by unfold rightV; rw [hv]; simp)
  have e1 := txt1_len s (by omega)
  have e2 := txt1_len (f s).id (by omega)
  have e3 := txt1_len (f s).name (by omega)
  unfold refB
  simp only [txtB_cons, txtB_nil, List.length_append, List.length_nil]
  omega
/-- what a function that makes bytes returns, without whose they are -/
def RetS (w : World) (l : List UInt8) (e : Ending) (w' : World) : Prop := ∃ (A : Option Addr) (m c : Nat), e = .returned (.slice A m c) ∧ Sl w' 1 A m (u8s l) ∧ m ≤ c ∧ Below w.heap.size w w'
def SlB (w : World) (v : Value) (l : List UInt8) : Prop := ∃ (A : Option Addr) (m c : Nat), v = .slice A m c ∧ Sl w 1 A m (u8s l) ∧ m ≤ c
theorem SlB.step {w w' : World} {v : Value} {l : List UInt8} (h : SlB w v l) (hb : Below w.heap.size w w') : SlB w' v l := by
  obtain ⟨A, m, c, h1, h2, h3⟩ := h
  exact ⟨A, m, c, h1, h2.below hb, h3⟩
theorem SlB.of {w0 w : World} {e : TypeId} {A : Option Addr} {m c : Nat} {l : List UInt8} (h : Ow w0 w e 1 A m c (u8s l)) : SlB w (.slice A m c) l := ⟨A, m, c, rfl, h.sl, h.cap.1⟩
def SlS (w : World) (v : Value) (n : Nat) (l : List (List UInt8)) : Prop := ∃ (A : Option Addr), v = .slice A n n ∧ Sl w 1 A n (strs l)
theorem SlS.step {w w' : World} {v : Value} {n : Nat} {l : List (List UInt8)} (h : SlS w v n l) (hb : Below w.heap.size w w') : SlS w' v n l := by
  obtain ⟨A, h1, h2⟩ := h
  exact ⟨A, h1, h2.below hb⟩
theorem sl_strs (w : World) (t : TypeId) (l : List (List UInt8)) (n : Nat) (h : l.length = n) : Sl (w.alloc (.cells (strs l).toArray t)) 1 (some ⟨w.heap.size, 0, none⟩) n (strs l) := by
  refine ⟨by simp [strs, h], fun _ => ⟨_, _, rfl, by simp, fun k hk => ?_⟩⟩
  rw [Nat.zero_add]
  simp

set_option maxHeartbeats 1000000 in
set_option maxRecDepth 100000 in
theorem texts_any (A : Option Addr) (n c : Nat) (l : List UInt8) (A' : Option Addr) (n' c' : Nat) (ss : List (List UInt8)) (w : World) (hA : Sl w 1 A n (u8s l)) (hc : n ≤ c) (hS : Sl w 1 A' n' (strs ss)) (hn' : n' ≤ 1000) (hn : n + (txtB ss).length + 9 ≤ 140737488355328) :
    Calls Tryz.prog 29 #[.slice A n c, .slice A' n' c'] w (RetS w (l ++ txtB ss)) := by
  have hl := u8s_len hA
  have HS := Lib.hid hS
  have hss := Lib.hid (strs_len hS)
  have HA := Lib.hid hA
  clear hA hS
  go_enter Tryz.func29, Tryz.ntmps29
  go_wp2
  go_loopw [0, 6, 9] (fun o _ i wr => ∃ k : Nat, i = .int .i64 k ∧ Hid (k ≤ n') ∧ Hid (SlB wr o (l ++ (ss.take k).flatMap txt1)) ∧ Hid (Below w.heap.size w wr)) (fun _ _ i _ => n' - (intOf i).toNat)
  case atStart => exact ⟨0, rfl, Lib.hid (Nat.zero_le _), Lib.hid ⟨A, n, c, rfl, by simpa using HA.out, hc⟩, Lib.hid (Below.refl _ _)⟩
  case round =>
    obtain ⟨k, rfl, hk, hS, hb⟩ := hrel
    obtain ⟨Ao, no, co, rfl, hS1, hS2⟩ := hS.out
    have HS1 := Lib.hid hS1
    have HC := Lib.hid hS2
    have hno := u8s_len hS1
    clear hS hS1 hS2
    by_cases hlt : k < n'
    · obtain ⟨b, off, s, rfl, hs, x0⟩ := (HS.out.below hb.out).str hlt
      have h1 := fm_take (g := txt1) hs
      have h2 := Lib.hid (fm_snoc (g := txt1) hs)
      have h3 := txt1_pos s
      have h4 : (txtB ss).length = (ss.flatMap txt1).length := rfl
      rw [List.length_append] at hno
      have C1 := Lib.hid (putText_any Ao no co _ s wr HS1.out (by omega))
      clear hs h1 h3 h4
      go_wp2_with (go_at_call 55; refine C1.out.mono ?_; rintro e w2 ⟨A2, m2, c2, rfl, hO2⟩; have HB2 := Lib.hid (SlB.of hO2); have B2 := Lib.hid (bstep hb.out hO2.2); clear hO2)
      go_roundw
      case rel => exact ⟨k + 1, by go_num, Lib.hid hlt, Lib.hid (by rw [h2.out, ← List.append_assoc]; exact HB2.out), B2⟩
      case measure => simp [intOf]; omega
    · obtain rfl : k = n' := by have := hk.out; omega
      rw [List.take_of_length_le (by rw [hss.out]; exact Nat.le_refl _)] at HS1
      go_wp2
      go_ret
      exact ⟨Ao, no, co, rfl, HS1.out, HC.out, hb.out⟩
def refPhi (p m no co : Nat) (Ao : Option Addr) (L s vid vname : List UInt8) : Nat → Value → World → Prop
  | 0, v, _ => v = .slice Ao no co
  | 1, v, _ => v = S s
  | 2, v, _ => v = .pointer (some ⟨p, 0, none⟩)
  | 3, v, _ => v = .pointer (some ⟨p, 0, none⟩)
  | 4, v, _ => v = .pointer (some ⟨p, 0, none⟩)
  | 5, v, _ => v = .map (some m)
  | 6, v, _ => v = S s
  | 7, v, _ => v = .agg #[S vid, S vname]
  | 8, v, _ => v = S vid
  | 9, v, _ => v = .pointer (some ⟨p, 0, none⟩)
  | 10, v, _ => v = .pointer (some ⟨p, 0, none⟩)
  | 11, v, _ => v = .pointer (some ⟨p, 0, none⟩)
  | 12, v, _ => v = .map (some m)
  | 13, v, _ => v = S s
  | 14, v, _ => v = .agg #[S vid, S vname]
  | 15, v, _ => v = S vname
  | 16, v, w => SlS w v 3 [s, vid, vname]
  | 17, v, w => SlB w v (L ++ txtB [s, vid, vname])
  | _, _, _ => True
theorem refPhi_mono {p m no co : Nat} {Ao : Option Addr} {L s vid vname : List UInt8} : ∀ (j : Nat) (v : Value) (w w' : World), refPhi p m no co Ao L s vid vname j v w → Below w.heap.size w w' → refPhi p m no co Ao L s vid vname j v w' := by
  intro j v w w' h hb
  match j, h with
  | 0, h => exact h
  | 1, h => exact h
  | 2, h => exact h
  | 3, h => exact h
  | 4, h => exact h
  | 5, h => exact h
  | 6, h => exact h
  | 7, h => exact h
  | 8, h => exact h
  | 9, h => exact h
  | 10, h => exact h
  | 11, h => exact h
  | 12, h => exact h
  | 13, h => exact h
  | 14, h => exact h
  | 15, h => exact h
  | 16, h => exact SlS.step h hb
  | 17, h => exact SlB.step h hb
  | (n + 18), _ => trivial
def twhPhi (g no2 co2 s : Nat) (Ao2 : Option Addr) (M who text : List UInt8) : Nat → Value → World → Prop
  | 0, v, _ => v = .slice Ao2 no2 co2
  | 1, v, _ => v = .pointer (some ⟨g, 0, none⟩)
  | 2, v, _ => v = S who
  | 3, v, _ => v = .pointer (some ⟨g, 1, none⟩)
  | 4, v, _ => v = S text
  | 5, v, w => SlS w v 2 [who, text]
  | 6, v, w => SlB w v (M ++ txtB [who, text])
  | 7, v, _ => v = .pointer (some ⟨g, 2, none⟩)
  | 8, v, _ => v = I ((s : Int))
  | 9, v, w => SlB w v ((M ++ txtB [who, text]) ++ putNum s)
  | _, _, _ => True
theorem twhPhi_mono {g no2 co2 s : Nat} {Ao2 : Option Addr} {M who text : List UInt8} : ∀ (j : Nat) (v : Value) (w w' : World), twhPhi g no2 co2 s Ao2 M who text j v w → Below w.heap.size w w' → twhPhi g no2 co2 s Ao2 M who text j v w' := by
  intro j v w w' h hb
  match j, h with
  | 0, h => exact h
  | 1, h => exact h
  | 2, h => exact h
  | 3, h => exact h
  | 4, h => exact h
  | 5, h => exact SlS.step h hb
  | 6, h => exact SlB.step h hb
  | 7, h => exact h
  | 8, h => exact h
  | 9, h => exact SlB.step h hb
  | (n + 10), _ => trivial
set_option maxHeartbeats 8000000 in
set_option maxRecDepth 100000 in
theorem encode_any (w : World) (p : Nat) (H : Nat → Prop) (bk : Book) (z : Nat) (hB : BookAt w p H bk z) (hz : z * 4096 ≤ 1000000) :
    Calls Tryz.prog 12 #[.pointer (some ⟨p, 0, none⟩)] w fun e w' => ∃ ns, IsNames bk.f ns ∧ ns.length ≤ z * 4096 ∧ RetS w (bookB ns bk) e w' := by
  have HBA := Lib.hid hB
  obtain ⟨m, A, n, c, xs, cnt, hI⟩ := hB
  have HI := Lib.hid hI
  have kV := Tryz.zeroV
  have HT := Lib.hid hI.inv.txn
  have HV := Lib.hid hI.inv.val
  have hlen := hI.len
  have hcap := hI.cap.2
  clear hI
  go_enter Tryz.func12, Tryz.ntmps12
  go_wp2_with fail
  refine (names_any w p H bk z HBA.out hz).mono ?_
  rintro e w2 ⟨A2, n2, c2, ns, rfl, hn2, hN, hO2⟩
  have B2 := Lib.hid hO2.2
  have HS2 := Lib.hid hO2.sl
  have HN := Lib.hid hN
  have hns : ns.length = n2 := by simpa using hO2.sl.len
  have hb1 : (ns.flatMap (refB bk.f)).length ≤ n2 * 500 := by
    rw [← hns]
    refine fm_len (fun s hs => ?_)
    rcases HV.out s with h | h
    · exact absurd h ((hN.2 s).1 hs).2
    · exact refB_len h.1 h.2
  have hb2 : (bk.txns.flatMap txB).length ≤ n * 3400000 := by
    rw [← hlen]
    exact fm_len (fun t ht => txB_len (HT.out t ht))
  have C3 := Lib.hid (fun W => putNum_nat none 0 0 n2 [] W Sl.nil_ (by omega) (by omega))
  have hp2 := putNum_le n2 (by omega)
  clear hN hO2
  go_wp2_with (go_at_call 28; refine (C3.out _).mono ?_; rintro e w3 ⟨A3, n3, c3, rfl, hO3⟩; have B3 := Lib.hid (bstep B2.out hO3.2); have HS3 := Lib.hid (HS2.out.below hO3.2); have HE3 := Lib.hid (SlB.of hO3); clear hO3)
  go_loopw [4, 6, 18] (fun o _ i wr => ∃ k : Nat, i = .int .i64 k ∧ Hid (k ≤ n2) ∧ Hid (SlB wr o (putNum n2 ++ (ns.take k).flatMap (refB bk.f))) ∧ Hid (Below w3.heap.size w3 wr)) (fun _ _ i _ => n2 - (intOf i).toNat)
  case atStart => exact ⟨0, rfl, Lib.hid (Nat.zero_le _), Lib.hid (by simpa using HE3.out), Lib.hid (Below.refl _ _)⟩
  case round =>
    obtain ⟨k, rfl, hk, hS, hb⟩ := hrel
    obtain ⟨Ao, no, co, rfl, hS1, hS2⟩ := hS.out
    have HSL := Lib.hid hS1
    have HC := Lib.hid hS2
    have hno := u8s_len hS1
    rw [List.length_append] at hno
    clear hS hS1 hS2
    have BR := Lib.hid (bstep B3.out hb.out)
    by_cases hlt : k < n2
    · obtain ⟨b, off, s, rfl, hs, x0⟩ := (HS3.out.below hb.out).str hlt
      have h1 := fm_take (g := refB bk.f) hs
      have hgs : s.length ≤ maxLen := ((HN.out.2 s).1 (List.mem_of_getElem? hs)).1
      have HX := Lib.hid (fm_snoc (g := refB bk.f) hs)
      have hmo := HI.out.map.step BR.out
      rcases hv0 : bk.f s with ⟨vid, vname⟩
      have HL : Hid (∀ W', Below wr.heap.size wr W' → (Instr.lookup 71 (.map (some m)) (S s) false).run Tryz.prog W' = .ok (.agg #[S vid, S vname]) W') := Lib.hid (fun W' h => by
        have h1 := (hmo.step h).run_look (a0 := zv) Tryz.underlying71 (Tryz.zeroV _) (x := s) hgs
        rw [optF_get, hv0] at h1
        exact h1)
      have HBp := Lib.hid (HI.out.blk.step BR.out)
      have er : refB bk.f s = txtB [s, vid, vname] := by unfold refB; rw [hv0]
      rw [er] at h1 HX
      obtain ⟨L, hL⟩ : ∃ L, L = putNum n2 ++ (ns.take k).flatMap (refB bk.f) := ⟨_, rfl⟩
      have HNX : Hid (putNum n2 ++ (ns.take (k + 1)).flatMap (refB bk.f) = L ++ txtB [s, vid, vname]) := Lib.hid (by rw [HX.out, hL, List.append_assoc])
      rw [← hL] at HSL
      have hbb : no + (txtB [s, vid, vname]).length + 9 ≤ 140737488355328 := by omega
      clear hs hmo h1 HX hL hno hv0 er
      have BH := Lib.hid hb.out
      go_wp2
      clear x0
      refine wp_region_guardsL (by kernel_rfl) 18 (by kernel_rfl) ?_ (refPhi p m no co Ao L s vid vname) refPhi_mono (fun i o hi ho a w hb hs hm => ?_) (fun o ho a w hb hs hm => ?_)
      · exact dst_ltC (n := 94) (by kernel_rfl)
      · exact match i, hi, ho with
        | 0, _, ho => by
            cases ho
            rw [if_pos (wanted_none _ rfl)]
            refine wp_value (st_move rfl ((hs.keeps (by kernel_rfl)).trans rfl)) ⟨_, rfl, rfl, Below.refl _ _⟩
        | 1, _, ho => by
            cases ho
            rw [if_pos (wanted_none _ rfl)]
            refine wp_value (st_move rfl ((hs.keeps (by kernel_rfl)).trans rfl)) ⟨_, rfl, rfl, Below.refl _ _⟩
        | 2, _, ho => by
            cases ho
            rw [if_pos (wanted_none _ rfl)]
            refine wp_value (st_move rfl ((hs.keeps (by kernel_rfl)).trans rfl)) ⟨_, rfl, rfl, Below.refl _ _⟩
        | 3, _, ho => by
            cases ho
            rw [if_pos (wanted_none _ rfl)]
            refine wp_value (st_nil rfl (hm.get 2 24 (by kernel_rfl))) ⟨_, rfl, rfl, Below.refl _ _⟩
        | 4, _, ho => by
            cases ho
            rw [if_pos (wanted_none _ rfl)]
            refine wp_value (st_field rfl (hm.get 3 25 (by kernel_rfl)) (by kernel_rfl)) ⟨_, rfl, rfl, Below.refl _ _⟩
        | 5, _, ho => by
            cases ho
            rw [if_pos (wanted_none _ rfl)]
            have hx : w.cell? ⟨p, 0, none⟩ = some (.map (some m)) := (HBp.out.step hb).cell 0; refine wp_value (st_load rfl (hm.get 4 26 (by kernel_rfl)) (by go_simp)) ⟨_, rfl, rfl, Below.refl _ _⟩
        | 6, _, ho => by
            cases ho
            rw [if_pos (wanted_none _ rfl)]
            refine wp_value (st_move rfl ((hs.keeps (by kernel_rfl)).trans rfl)) ⟨_, rfl, rfl, Below.refl _ _⟩
        | 7, _, ho => by
            cases ho
            rw [if_pos (wanted_none _ rfl)]
            have h1 := eval_getD (hm.get 5 27 (by kernel_rfl)); have h2 := eval_getD (hm.get 6 28 (by kernel_rfl)); have h3 := HL.out w hb; unfold Oper.wp; simp only [execOp]; go_simp; exact ⟨_, rfl, rfl, Below.refl _ _⟩
        | 8, _, ho => by
            cases ho
            rw [if_pos (wanted_none _ rfl)]
            have h1 := eval_getD (hm.get 7 29 (by kernel_rfl)); unfold Oper.wp; simp only [execOp]; go_simp; exact ⟨_, rfl, rfl, Below.refl _ _⟩
        | 9, _, ho => by
            cases ho
            rw [if_pos (wanted_none _ rfl)]
            refine wp_value (st_move rfl ((hs.keeps (by kernel_rfl)).trans rfl)) ⟨_, rfl, rfl, Below.refl _ _⟩
        | 10, _, ho => by
            cases ho
            rw [if_pos (wanted_none _ rfl)]
            refine wp_value (st_nil rfl (hm.get 9 31 (by kernel_rfl))) ⟨_, rfl, rfl, Below.refl _ _⟩
        | 11, _, ho => by
            cases ho
            rw [if_pos (wanted_none _ rfl)]
            refine wp_value (st_field rfl (hm.get 10 32 (by kernel_rfl)) (by kernel_rfl)) ⟨_, rfl, rfl, Below.refl _ _⟩
        | 12, _, ho => by
            cases ho
            rw [if_pos (wanted_none _ rfl)]
            have hx : w.cell? ⟨p, 0, none⟩ = some (.map (some m)) := (HBp.out.step hb).cell 0; refine wp_value (st_load rfl (hm.get 11 33 (by kernel_rfl)) (by go_simp)) ⟨_, rfl, rfl, Below.refl _ _⟩
        | 13, _, ho => by
            cases ho
            rw [if_pos (wanted_none _ rfl)]
            refine wp_value (st_move rfl ((hs.keeps (by kernel_rfl)).trans rfl)) ⟨_, rfl, rfl, Below.refl _ _⟩
        | 14, _, ho => by
            cases ho
            rw [if_pos (wanted_none _ rfl)]
            have h1 := eval_getD (hm.get 12 34 (by kernel_rfl)); have h2 := eval_getD (hm.get 13 35 (by kernel_rfl)); have h3 := HL.out w hb; unfold Oper.wp; simp only [execOp]; go_simp; exact ⟨_, rfl, rfl, Below.refl _ _⟩
        | 15, _, ho => by
            cases ho
            rw [if_pos (wanted_none _ rfl)]
            have h1 := eval_getD (hm.get 14 36 (by kernel_rfl)); unfold Oper.wp; simp only [execOp]; go_simp; exact ⟨_, rfl, rfl, Below.refl _ _⟩
        | 16, _, ho => by
            cases ho
            rw [if_pos (wanted_none _ rfl)]
            have e0 : a.eval (.tmp 23) = S s := (hm.get 1 23 (by kernel_rfl)); have e1 : a.eval (.tmp 30) = S vid := (hm.get 8 30 (by kernel_rfl)); have e2 : a.eval (.tmp 37) = S vname := (hm.get 15 37 (by kernel_rfl)); exact wp_value (w' := w.alloc (.cells (strs [s, vid, vname]).toArray 9)) (v := .slice (some ⟨w.heap.size, 0, none⟩) 3 3) (st_build (q := #[(0, S s), (1, S vid), (2, S vname)]) rfl (by simp only [List.map_toArray, List.map_cons, List.map_nil, e0, e1, e2]) (by go_simp; try rfl)) ⟨_, rfl, ⟨_, rfl, sl_strs w 9 [s, vid, vname] 3 rfl⟩, balloc (Below.refl _ w) _⟩
        | 17, _, ho => by
            cases ho
            rw [if_pos (wanted_none _ rfl)]
            have S9 := HSL.out.below hb; have h1 := eval_getD (hm.get 0 22 (by kernel_rfl)); obtain ⟨A7, e7, S7⟩ := (hm.get 16 38 (by kernel_rfl)); have h2 := eval_getD e7; unfold Oper.wp; simp only [execOp]; go_simp; refine (texts_any Ao no co _ A7 _ _ [s, vid, vname] w S9 HC.out S7 (by omega) (by omega)).mono ?_; rintro e w' ⟨A8, m8, c8, rfl, hS8, hm8, hb8⟩; exact ⟨_, rfl, ⟨A8, m8, c8, rfl, hS8, hm8⟩, hb8⟩
        | (n + 18), hi, _ => absurd hi (by omega)

      have e1 : SlB w (a.eval (.tmp 39)) (L ++ txtB [s, vid, vname]) := by cases ho; exact hm.get 17 39 (by kernel_rfl)
      have hfr := hs.frame [22, 23, 24, 25, 26, 27, 28, 29, 30, 31, 32, 33, 34, 35, 36, 37, 38, 39] (by kernel_rfl)
      cases ho
      rw [hfr]
      simp only [List.foldl_cons, List.foldl_nil]
      clear hfr hs hm
      generalize a.eval (.tmp 22) = u22
      generalize a.eval (.tmp 23) = u23
      generalize a.eval (.tmp 24) = u24
      generalize a.eval (.tmp 25) = u25
      generalize a.eval (.tmp 26) = u26
      generalize a.eval (.tmp 27) = u27
      generalize a.eval (.tmp 28) = u28
      generalize a.eval (.tmp 29) = u29
      generalize a.eval (.tmp 30) = u30
      generalize a.eval (.tmp 31) = u31
      generalize a.eval (.tmp 32) = u32
      generalize a.eval (.tmp 33) = u33
      generalize a.eval (.tmp 34) = u34
      generalize a.eval (.tmp 35) = u35
      generalize a.eval (.tmp 36) = u36
      generalize a.eval (.tmp 37) = u37
      generalize a.eval (.tmp 38) = u38
      generalize a.eval (.tmp 39) = u39 at e1
      unfold Oper.wp
      simp only [execOp]
      go_simp
      clear a
      have P1 := e1
      have hb1 := hb
      clear e1
      have BW := Lib.hid (bstep BH.out hb1)
      go_wp2
      go_roundw
      case rel => exact ⟨k + 1, by go_num, Lib.hid hlt, Lib.hid (by rw [HNX.out]; exact P1), BW⟩
      case measure => simp [intOf]; omega
    · obtain rfl : k = n2 := by have := hk.out; omega
      rw [List.take_of_length_le (by rw [hns]; exact Nat.le_refl _)] at HSL hno
      have hp3 := putNum_le n (by omega)
      obtain ⟨N, hN⟩ : ∃ N, N = putNum k ++ ns.flatMap (refB bk.f) := ⟨_, rfl⟩
      have HN2 := Lib.hid hN
      rw [← hN] at HSL
      clear hN
      have C4 := Lib.hid (count_any wr p H bk z (HBA.out.step BR.out))
      have C5 := Lib.hid (putNum_nat Ao no co n N wr HSL.out (by omega) (by omega))
      rw [hlen] at C4
      go_wp2_with (first
        | (go_at_call 15; refine C4.out.mono ?_; rintro e w' ⟨rfl, rfl⟩)
        | (go_at_call 28; refine C5.out.mono ?_; rintro e w5 ⟨A5, n5, c5, rfl, hO5⟩; have B5 := Lib.hid (bstep BR.out hO5.2); have HE5 := Lib.hid (SlB.of hO5); clear hO5)
        | (go_at_call 23; refine (all_any w5 p H bk z m A n c xs cnt (HI.out.step B5.out)).mono ?_; rintro e w' ⟨rfl, rfl⟩))
      go_loopw [4, 8, 10, 48] (fun o _ _ i wr => ∃ j : Nat, i = .int .i64 j ∧ Hid (j ≤ n) ∧ Hid (SlB wr o ((N ++ putNum n) ++ (bk.txns.take j).flatMap txB)) ∧ Hid (Below w5.heap.size w5 wr)) (fun _ _ _ i _ => n - (intOf i).toNat)
      case atStart => exact ⟨0, rfl, Lib.hid (Nat.zero_le _), Lib.hid (by simpa using HE5.out), Lib.hid (Below.refl _ _)⟩
      case round =>
        clear hb
        obtain ⟨j, rfl, hj, hS, hb⟩ := hrel
        clear BR
        obtain ⟨Ao2, no2, co2, rfl, hS1, hS2⟩ := hS.out
        have HSM := Lib.hid hS1
        have HC2 := Lib.hid hS2
        have hno2 := u8s_len hS1
        rw [List.length_append, List.length_append, HN2.out, List.length_append] at hno2
        clear hS hS1 hS2
        have BR := Lib.hid (bstep B5.out hb.out)
        have hI2 := HI.out.step BR.out
        by_cases hlt : j < n
        · obtain ⟨b, off, x, rfl, _, hx, x0, x1, x2, x3⟩ := hI2.sl.txn hlt
          have hxt : bk.txns[j]? = some x.txn := by rw [← hI2.txns, List.getElem?_map, hx]; rfl
          have h1 := fm_take (g := txB) hxt
          have HX := Lib.hid (fm_snoc (g := txB) hxt)
          obtain ⟨r1, r2, r3, r4, r5, r6, r7⟩ := rightT_parts (HT.out x.txn (List.mem_of_getElem? hxt))
          have HCH := Lib.hid (hI2.chg x (List.mem_of_getElem? hx)).1
          have hcl : x.txn.chs.length = x.n := chs_count HCH.out
          have HOK := Lib.hid r1
          clear hI2 hx hxt r1
          obtain ⟨who, text, stamp, Ax, nx, cx, l⟩ := x
          simp only [TxG.txn] at *
          obtain ⟨s, hs⟩ : ∃ s, s = stamp.toNat := ⟨_, rfl⟩
          rw [← hs] at r4 r5
          clear hs
          subst r4
          have a1 := putNum_le s r5
          have a2 := putNum_le nx (by omega)
          obtain ⟨M, hM⟩ : ∃ M, M = (N ++ putNum n) ++ (bk.txns.take j).flatMap txB := ⟨_, rfl⟩
          have HNX : Hid ((N ++ putNum n) ++ (bk.txns.take (j + 1)).flatMap txB = (((M ++ txtB [who, text]) ++ putNum s) ++ putNum nx) ++ l.flatMap chB) := Lib.hid (by rw [HX.out, hM, txB, ← hcl]; simp)
          rw [← hM] at HSM
          have hl3 : (txtB [who, text]).length + (l.flatMap chB).length ≤ (txB ⟨who, text, (s : Int), l⟩).length := by
            unfold txB
            simp only [List.length_append]
            omega
          have hbb : no2 + (txtB [who, text]).length + (l.flatMap chB).length ≤ 1400000000 := by omega
          have hbT := Lib.hid hbb
          clear HX hM h1 hl3
          have HB6 := Lib.hid (Blk.new wr 37 #[S who, S text, I s, .slice Ax nx cx])
          have b6 := balloc (Below.refl _ wr) (.cells #[S who, S text, I s, .slice Ax nx cx] 37)
          obtain ⟨W, hW⟩ : ∃ W, W = wr.alloc (.cells #[S who, S text, I s, .slice Ax nx cx] 37) := ⟨_, rfl⟩
          obtain ⟨g, hg⟩ : ∃ g, g = wr.heap.size := ⟨_, rfl⟩
          rw [← hW, ← hg] at HB6
          rw [← hW] at b6
          have BWt := Lib.hid (bstep hb.out b6)
          have HSW := Lib.hid (HSM.out.below b6)
          have HCW := Lib.hid (HCH.out.below b6)
          go_wp2
          rw [← hW]
          rw [← hg]
          clear hW hg b6 x0 x1 x2 x3
          refine wp_region_guardsL (by kernel_rfl) 10 (by kernel_rfl) ?_ (twhPhi g no2 co2 s Ao2 M who text) twhPhi_mono (fun i o hi ho a w hb hs hm => ?_) (fun o ho a w hb hs hm => ?_)
          · exact dst_ltC (n := 94) (by kernel_rfl)
          · exact match i, hi, ho with
            | 0, _, ho => by
                cases ho
                rw [if_pos (wanted_none _ rfl)]
                refine wp_value (st_move rfl ((hs.keeps (by kernel_rfl)).trans rfl)) ⟨_, rfl, rfl, Below.refl _ _⟩
            | 1, _, ho => by
                cases ho
                rw [if_pos (wanted_none _ rfl)]
                refine wp_value (st_field rfl ((hs.keeps (by kernel_rfl)).trans rfl) (by kernel_rfl)) ⟨_, rfl, rfl, Below.refl _ _⟩
            | 2, _, ho => by
                cases ho
                rw [if_pos (wanted_none _ rfl)]
                have hx : w.cell? ⟨g, 0, none⟩ = some (S who) := (HB6.out.step hb).cell 0; refine wp_value (st_load rfl (hm.get 1 53 (by kernel_rfl)) (by go_simp)) ⟨_, rfl, rfl, Below.refl _ _⟩
            | 3, _, ho => by
                cases ho
                rw [if_pos (wanted_none _ rfl)]
                refine wp_value (st_field rfl ((hs.keeps (by kernel_rfl)).trans rfl) (by kernel_rfl)) ⟨_, rfl, rfl, Below.refl _ _⟩
            | 4, _, ho => by
                cases ho
                rw [if_pos (wanted_none _ rfl)]
                have hx : w.cell? ⟨g, 1, none⟩ = some (S text) := (HB6.out.step hb).cell 1; refine wp_value (st_load rfl (hm.get 3 55 (by kernel_rfl)) (by go_simp)) ⟨_, rfl, rfl, Below.refl _ _⟩
            | 5, _, ho => by
                cases ho
                rw [if_pos (wanted_none _ rfl)]
                have e0 : a.eval (.tmp 54) = S who := (hm.get 2 54 (by kernel_rfl)); have e1 : a.eval (.tmp 56) = S text := (hm.get 4 56 (by kernel_rfl)); exact wp_value (w' := w.alloc (.cells (strs [who, text]).toArray 9)) (v := .slice (some ⟨w.heap.size, 0, none⟩) 2 2) (st_build (q := #[(0, S who), (1, S text)]) rfl (by simp only [List.map_toArray, List.map_cons, List.map_nil, e0, e1]) (by go_simp; try rfl)) ⟨_, rfl, ⟨_, rfl, sl_strs w 9 [who, text] 2 rfl⟩, balloc (Below.refl _ w) _⟩
            | 6, _, ho => by
                cases ho
                rw [if_pos (wanted_none _ rfl)]
                have S9 := HSW.out.below hb; have h1 := eval_getD (hm.get 0 52 (by kernel_rfl)); obtain ⟨A7, e7, S7⟩ := (hm.get 5 57 (by kernel_rfl)); have h2 := eval_getD e7; unfold Oper.wp; simp only [execOp]; go_simp; refine (texts_any Ao2 no2 co2 _ A7 _ _ [who, text] w S9 HC2.out S7 (by omega) (by omega)).mono ?_; rintro e w' ⟨A8, m8, c8, rfl, hS8, hm8, hb8⟩; exact ⟨_, rfl, ⟨A8, m8, c8, rfl, hS8, hm8⟩, hb8⟩
            | 7, _, ho => by
                cases ho
                rw [if_pos (wanted_none _ rfl)]
                refine wp_value (st_field rfl ((hs.keeps (by kernel_rfl)).trans rfl) (by kernel_rfl)) ⟨_, rfl, rfl, Below.refl _ _⟩
            | 8, _, ho => by
                cases ho
                rw [if_pos (wanted_none _ rfl)]
                have hx : w.cell? ⟨g, 2, none⟩ = some (I ((s : Int))) := (HB6.out.step hb).cell 2; refine wp_value (st_load rfl (hm.get 7 59 (by kernel_rfl)) (by go_simp)) ⟨_, rfl, rfl, Below.refl _ _⟩
            | 9, _, ho => by
                cases ho
                rw [if_pos (wanted_none _ rfl)]
                obtain ⟨A9, m9, c9, e9, S9, hc9⟩ := (hm.get 6 58 (by kernel_rfl)); have hm9 := u8s_len S9; rw [List.length_append, u8s_len HSM.out] at hm9; have h1 := eval_getD e9; have h2 := eval_getD (hm.get 8 60 (by kernel_rfl)); unfold Oper.wp; simp only [execOp]; go_simp; refine (putNum_nat A9 m9 c9 s _ w S9 (by omega) (by omega)).mono ?_; rintro e w' ⟨A8, m8, c8, rfl, hO8⟩; exact ⟨_, rfl, (SlB.of hO8), hO8.2⟩
            | (n + 10), hi, _ => absurd hi (by omega)

          have e1 : SlB w (a.eval (.tmp 61)) ((M ++ txtB [who, text]) ++ putNum s) := by cases ho; exact hm.get 9 61 (by kernel_rfl)
          have hfr := hs.frame [52, 53, 54, 55, 56, 57, 58, 59, 60, 61] (by kernel_rfl)
          cases ho
          rw [hfr]
          simp only [List.foldl_cons, List.foldl_nil]
          clear hfr hs hm
          generalize a.eval (.tmp 52) = u52
          generalize a.eval (.tmp 53) = u53
          generalize a.eval (.tmp 54) = u54
          generalize a.eval (.tmp 55) = u55
          generalize a.eval (.tmp 56) = u56
          generalize a.eval (.tmp 57) = u57
          generalize a.eval (.tmp 58) = u58
          generalize a.eval (.tmp 59) = u59
          generalize a.eval (.tmp 60) = u60
          generalize a.eval (.tmp 61) = u61 at e1
          unfold Oper.wp
          simp only [execOp]
          go_simp
          clear a
          have P2 := e1
          have hb2 := hb
          clear e1
          have BV := Lib.hid (bstep BWt.out hb2)
          have HB7 := (HB6.out.step hb2).cell
          have HCV := Lib.hid (HCW.out.below hb2)
          obtain ⟨Av, nv, cv, rfl, hSV, hcv⟩ := P2
          have hmV := u8s_len hSV
          rw [List.length_append, List.length_append, u8s_len HSM.out] at hmV
          have C8 := Lib.hid (putNum_nat Av nv cv nx _ _ hSV (by omega) (by omega))
          clear hSV hcv
          go_wp2_with (go_at_call 28; refine C8.out.mono ?_; rintro e w8 ⟨A8, n8, c8, rfl, hO8⟩; have B8 := Lib.hid (bstep BV.out hO8.2); have HE8 := Lib.hid (SlB.of hO8); have HC8 := Lib.hid (HCV.out.below hO8.2); have HB8 := ((HB6.out.step hb2).step hO8.2).cell; clear hO8 HB7)
          go_loopw [4, 10, 70] (fun o _ i wr => ∃ q : Nat, i = .int .i64 q ∧ Hid (q ≤ nx) ∧ Hid (SlB wr o ((((M ++ txtB [who, text]) ++ putNum s) ++ putNum nx) ++ (l.take q).flatMap chB)) ∧ Hid (Below w8.heap.size w8 wr)) (fun _ _ i _ => nx - (intOf i).toNat)
          case atStart => exact ⟨0, rfl, Lib.hid (Nat.zero_le _), Lib.hid (by simpa using HE8.out), Lib.hid (Below.refl _ _)⟩
          case round =>
            obtain ⟨q, rfl, hq, hS, hbq⟩ := hrel
            obtain ⟨Ao3, no3, co3, rfl, hS1, hS2⟩ := hS.out
            have HSQ := Lib.hid hS1
            have HC3 := Lib.hid hS2
            have hno3 := u8s_len hS1
            simp only [List.length_append] at hno3
            rw [u8s_len HSM.out] at hno3
            clear hS hS1 hS2
            by_cases hlt : q < nx
            · obtain ⟨b', off', y, rfl, _, hy, y0, y1, y2, y3, y4⟩ := (HC8.out.below hbq.out).chg hlt
              have h1 := fm_take (g := chB) hy
              have HX := Lib.hid (fm_snoc (g := chB) hy)
              have hbq2 := hbT.out
              clear hy
              have HNY : Hid ((((M ++ txtB [who, text]) ++ putNum s) ++ putNum nx) ++ (l.take (q + 1)).flatMap chB = ((((M ++ txtB [who, text]) ++ putNum s) ++ putNum nx) ++ (l.take q).flatMap chB) ++ txtB [y.ref, y.old.id, y.old.name, y.new.id, y.new.name]) := Lib.hid (by rw [HX.out]; simp only [List.append_assoc]; rfl)
              have h2 : (chB y).length = (txtB [y.ref, y.old.id, y.old.name, y.new.id, y.new.name]).length := rfl
              have hbz : no3 + (txtB [y.ref, y.old.id, y.old.name, y.new.id, y.new.name]).length + 9 ≤ 140737488355328 := by omega
              clear HX h1 h2 hbq2 hno3
              have C9 : Hid (∀ (W : World) (A7 : Option Addr), Below wr.heap.size wr W → Sl W 1 A7 5 (strs [y.ref, y.old.id, y.old.name, y.new.id, y.new.name]) → Calls Tryz.prog 29 #[.slice Ao3 no3 co3, .slice A7 5 5] W (RetS W (((((M ++ txtB [who, text]) ++ putNum s) ++ putNum nx) ++ (l.take q).flatMap chB) ++ txtB [y.ref, y.old.id, y.old.name, y.new.id, y.new.name]))) := Lib.hid (fun W A7 h1 h2 => texts_any Ao3 no3 co3 _ A7 5 5 _ W (HSQ.out.below h1) HC3.out h2 (by omega) hbz)
              have DS : Hid (Sl ((wr.alloc (.cells #[S y.ref, S y.old.id, S y.old.name, S y.new.id, S y.new.name] 58)).alloc (.cells #[S y.ref, S y.old.id, S y.old.name, S y.new.id, S y.new.name] 9)) 1 (some ⟨wr.heap.size + 1, 0, none⟩) 5 (strs [y.ref, y.old.id, y.old.name, y.new.id, y.new.name])) := Lib.hid (by
                have h := sl_strs (wr.alloc (.cells #[S y.ref, S y.old.id, S y.old.name, S y.new.id, S y.new.name] 58)) 9 [y.ref, y.old.id, y.old.name, y.new.id, y.new.name] 5 rfl
                rw [World.size_alloc] at h
                exact h)
              have BQ := Lib.hid (balloc (balloc (Below.refl _ wr) (.cells #[S y.ref, S y.old.id, S y.old.name, S y.new.id, S y.new.name] 58)) (.cells #[S y.ref, S y.old.id, S y.old.name, S y.new.id, S y.new.name] 9))
              have BQ2 := Lib.hid (bstep hbq.out BQ.out)
              go_wp2_with (go_at_call 29; refine (C9.out _ _ BQ.out DS.out).mono ?_; rintro e w9 ⟨A9, m9, c9, rfl, hS9, hm9, hb9⟩; have B9 := Lib.hid (bstep BQ2.out hb9); have HE9 : Hid (SlB w9 (.slice A9 m9 c9) (((((M ++ txtB [who, text]) ++ putNum s) ++ putNum nx) ++ (l.take q).flatMap chB) ++ txtB [y.ref, y.old.id, y.old.name, y.new.id, y.new.name])) := Lib.hid ⟨A9, m9, c9, rfl, hS9, hm9⟩; clear hS9 hm9 hb9)
              go_roundw
              case rel => exact ⟨q + 1, by go_num, Lib.hid hlt, Lib.hid (by rw [HNY.out]; exact HE9.out), B9⟩
              case measure => simp [intOf]; omega
            · obtain rfl : q = nx := by have := hq.out; omega
              rw [List.take_of_length_le (by rw [hcl]; exact Nat.le_refl _)] at HSQ
              go_wp2
              go_roundw
              case rel => exact ⟨j + 1, by go_num, Lib.hid (by omega), Lib.hid (by rw [HNX.out]; exact ⟨_, _, _, rfl, HSQ.out, HC3.out⟩), Lib.hid (bstep B8.out hbq.out)⟩
              case measure => simp [intOf]; omega
        · obtain rfl : j = n := by have := hj.out; omega
          rw [List.take_of_length_le (by rw [hlen]; exact Nat.le_refl _)] at HSM
          go_wp2
          go_ret
          refine ⟨ns, HN.out, by omega, Ao2, no2, co2, rfl, ?_, HC2.out, BR.out⟩
          unfold bookB
          rw [hns, hlen, ← HN2.out]
          exact HSM.out
end Go.Proofs.YtegehaokfcamfaaGreatDoor

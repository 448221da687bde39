/-
  dolmenlaw14.alike is true where the document's index has the program's entries in order. Condition: the entries are an index's.
-/
import Derived.Test.YtjcelelgebohkaaGreatDoorIdxEnc2
import Derived.Test.YtjcelelgebohkaaGreatDoorIdxFiles2
import Derived.Test.YtjcelelgebohkaaGreatDoorIdxConfs
import Derived.Test.YtjcelelgebohkaaGreatDoorIdxStep
namespace Go.Proofs.YtjcelelgebohkaaGreatDoor
open Go.RowKit
open IdxLaw (Ent sortE)

abbrev Txs := List (List UInt8)
def SlP (w : World) (v : Value) (sz n : Nat) (xs : List Value) : Prop := ∃ (A : Option Addr) (c : Nat), v = .slice A n c ∧ Sl w sz A n xs
theorem SlP.step {w w' : World} {v : Value} {sz n : Nat} {xs : List Value} (h : SlP w v sz n xs) (hb : Below w.heap.size w w') : SlP w' v sz n xs := by
  obtain ⟨A, c, h1, h2⟩ := h
  exact ⟨A, c, h1, h2.below hb⟩
def alkPhi (p q N cq : Nat) (Aq : Option Addr) (E : List Ent) (F : List Fil) (K : Txs) : Nat → Value → World → Prop
  | 0, v, _ => v = .pointer (some ⟨p, 0, none⟩)
  | 1, v, w => SlP w v 5 N (ents E)
  | 2, v, w => SlP w v 5 N (ents E)
  | 3, v, _ => v = .pointer (some ⟨q, 0, none⟩)
  | 4, v, _ => v = .pointer (some ⟨q, 0, none⟩)
  | 5, v, _ => v = .pointer (some ⟨q, 0, none⟩)
  | 6, v, _ => v = .slice Aq N cq
  | 7, v, _ => v = .bool true
  | 8, v, _ => v = .bool true
  | 9, v, _ => v = .pointer (some ⟨p, 0, none⟩)
  | 10, v, w => SlP w v 2 F.length (fls F)
  | 11, v, w => SlP w v 2 F.length (fls F)
  | 12, v, _ => v = .pointer (some ⟨q, 0, none⟩)
  | 13, v, w => SlP w v 2 F.length (fls F)
  | 14, v, _ => v = .bool true
  | 15, v, _ => v = .bool true
  | 16, v, _ => v = .bool true
  | 17, v, _ => v = .pointer (some ⟨p, 0, none⟩)
  | 18, v, w => SlP w v 1 K.length (strs K)
  | 19, v, _ => v = .pointer (some ⟨q, 0, none⟩)
  | 20, v, w => SlP w v 1 K.length (strs K)
  | 21, v, _ => v = .bool true
  | 22, v, _ => v = .bool true
  | 23, v, _ => v = .bool true
  | 24, v, _ => v = .pointer (some ⟨p, 0, none⟩)
  | 25, v, w => SlB w v (encI E)
  | 26, v, _ => v = .pointer (some ⟨q, 0, none⟩)
  | 27, v, w => SlB w v (encI E)
  | 28, v, _ => v = .bool true
  | 29, v, _ => v = .bool true
  | _, _, _ => True
theorem alkPhi_mono {p q N cq : Nat} {Aq : Option Addr} {E : List Ent} {F : List Fil} {K : Txs} : ∀ (j : Nat) (v : Value) (w w' : World), alkPhi p q N cq Aq E F K j v w → Below w.heap.size w w' → alkPhi p q N cq Aq E F K j v w' := by
  intro j v w w' h hb
  match j, h with
  | 0, h => exact h
  | 1, h => exact SlP.step h hb
  | 2, h => exact SlP.step h hb
  | 3, h => exact h
  | 4, h => exact h
  | 5, h => exact h
  | 6, h => exact h
  | 7, h => exact h
  | 8, h => exact h
  | 9, h => exact h
  | 10, h => exact SlP.step h hb
  | 11, h => exact SlP.step h hb
  | 12, h => exact h
  | 13, h => exact SlP.step h hb
  | 14, h => exact h
  | 15, h => exact h
  | 16, h => exact h
  | 17, h => exact h
  | 18, h => exact SlP.step h hb
  | 19, h => exact h
  | 20, h => exact SlP.step h hb
  | 21, h => exact h
  | 22, h => exact h
  | 23, h => exact h
  | 24, h => exact h
  | 25, h => exact SlB.step h hb
  | 26, h => exact h
  | 27, h => exact SlB.step h hb
  | 28, h => exact h
  | 29, h => exact h
  | (n + 30), _ => trivial
set_option maxRecDepth 100000 in
set_option maxHeartbeats 8000000 in
theorem alike_any (w : World) (p m q n : Nat) (l : List Ent) (hT : Two w p m q l (sortE l) n) (hn : n ≤ 999000) (hI : IdxLaw.Inv l) :
    Calls Tryz.prog 9 #[.pointer (some ⟨p, 0, none⟩), .pointer (some ⟨q, 0, none⟩)] w fun e w' => e = .returned (.bool true) ∧ Below w.heap.size w w' := by
  have hle : l.length ≤ 1000000 := by
    have h1 := hT.idx.map.le
    simp [kd] at h1
    omega
  have hr2 : ∀ e ∈ sortE l, IdxLaw.right e = true := fun e he => hI.right e ((IdxLaw.sortE_perm l).mem_iff.1 he)
  have hsl := (IdxLaw.sortE_perm l).length_eq
  have CE := Lib.hid (fun W' (h : Below w.heap.size w W') => entries_any W' p m n l (hT.step h).idx (by omega))
  have CF := Lib.hid (fun W' (h : Below w.heap.size w W') => files_any W' p m n l (hT.step h).idx (by omega))
  have CC := Lib.hid (fun W' (h : Below w.heap.size w W') => conflicts_any W' p m n l (hT.step h).idx (by omega))
  have CN := Lib.hid (fun W' (h : Below w.heap.size w W') => encode_any W' p m n l (hT.step h).idx (by omega) hI.right)
  have DF := Lib.hid (fun W' (h : Below w.heap.size w W') => rfiles_any _ W' q _ (hT.step h).ref (by omega))
  have DC := Lib.hid (fun W' (h : Below w.heap.size w W') => rconflicts_any _ W' q _ (hT.step h).ref (by omega))
  have DN := Lib.hid (fun W' (h : Below w.heap.size w W') => rencode_any _ W' q _ (hT.step h).ref (by omega) hr2)
  obtain ⟨_, _, Aq, cq, hB, hc, hS⟩ := hT.ref
  have HQ := Lib.hid hB
  have HS := Lib.hid hS.1
  obtain ⟨E, hE⟩ : ∃ E, E = sortE l := ⟨_, rfl⟩
  obtain ⟨N, hN⟩ : ∃ N, N = l.length := ⟨_, rfl⟩
  have hNE : E.length = N := by rw [hE, hN, hsl]
  have hF : (filesOf E).length ≤ 1000000 := by
    have := filesOf_len E N
    rw [List.take_of_length_le (by omega)] at this
    omega
  have hK : (confs1 E).length ≤ 1000000 := by
    have := confs1_len E N
    rw [List.take_of_length_le (by omega)] at this
    omega
  rw [← hE, hNE] at HQ HS
  rw [← hE, ← hN] at CE
  rw [← hE] at CF CC CN DF DC DN
  obtain ⟨F, hFE⟩ : ∃ F, F = filesOf E := ⟨_, rfl⟩
  obtain ⟨K, hKE⟩ : ∃ K, K = confs1 E := ⟨_, rfl⟩
  have hKE' : K = Lib.compact (confsOf E) := hKE
  rw [← hFE] at CF DF hF
  rw [← hKE] at DC hK
  rw [← hKE'] at CC
  have hN2 : N ≤ 1000000 := by omega
  clear hE hN hNE hFE hKE hKE' hc hS hB hT hsl hr2 hI hle
  go_enter Tryz.func9, Tryz.ntmps9
  go_wp2
  refine wp_region_guards (by kernel_rfl) 30 (by kernel_rfl) ?_ (alkPhi p q N cq Aq E F K) alkPhi_mono (fun i o hi ho a w hb hs hm => ?_) (fun o ho a w hb hs hm => ?_)
  · exact dst_ltT (n := 35) (by kernel_rfl)
  · exact match i, hi, ho with
    | 0, _, ho => by
        cases ho
        rw [if_pos (wanted_none _ rfl)]
        refine wp_value (st_move rfl ((hs.keeps (by kernel_rfl)).trans rfl)) ⟨_, rfl, rfl, Below.refl _ _⟩
    | 1, _, ho => by
        cases ho
        rw [if_pos (wanted_none _ rfl)]
        have h1 := eval_getD (hm.get 0 5 (by kernel_rfl)); unfold Oper.wp; simp only [execOp]; go_simp; refine (CE.out w hb).mono ?_; rintro e w' ⟨A8, c8, rfl, hO8⟩; exact ⟨_, rfl, ⟨A8, c8, rfl, hO8.sl⟩, hO8.2⟩
    | 2, _, ho => by
        cases ho
        rw [if_pos (wanted_none _ rfl)]
        obtain ⟨A9, c9, e9, S9⟩ := (hm.get 1 6 (by kernel_rfl)); have h1 := eval_getD e9; unfold Oper.wp; simp only [execOp]; go_simp; refine (theirs_any w A9 N c9 E S9 hN2).mono ?_; rintro e w' ⟨A8, c8, rfl, hO8⟩; exact ⟨_, rfl, ⟨A8, c8, rfl, hO8.sl⟩, hO8.2⟩
    | 3, _, ho => by
        cases ho
        rw [if_pos (wanted_none _ rfl)]
        refine wp_value (st_move rfl ((hs.keeps (by kernel_rfl)).trans rfl)) ⟨_, rfl, rfl, Below.refl _ _⟩
    | 4, _, ho => by
        cases ho
        rw [if_pos (wanted_none _ rfl)]
        refine wp_value (st_nil rfl (hm.get 3 8 (by kernel_rfl))) ⟨_, rfl, rfl, Below.refl _ _⟩
    | 5, _, ho => by
        cases ho
        rw [if_pos (wanted_none _ rfl)]
        refine wp_value (st_field rfl (hm.get 4 9 (by kernel_rfl)) (by kernel_rfl)) ⟨_, rfl, rfl, Below.refl _ _⟩
    | 6, _, ho => by
        cases ho
        rw [if_pos (wanted_none _ rfl)]
        have hx : w.cell? ⟨q, 0, none⟩ = some (.slice Aq N cq) := (HQ.out.step hb).cell 0; refine wp_value (st_load rfl (hm.get 5 10 (by kernel_rfl)) (by go_simp)) ⟨_, rfl, rfl, Below.refl _ _⟩
    | 7, _, ho => by
        cases ho
        rw [if_pos (wanted_none _ rfl)]
        obtain ⟨A9, c9, e9, S9⟩ := (hm.get 2 7 (by kernel_rfl)); have h1 := eval_getD e9; have h2 := eval_getD (hm.get 6 11 (by kernel_rfl)); unfold Oper.wp; simp only [execOp]; go_simp; refine (same_yes w A9 Aq N c9 cq E S9 (HS.out.below hb) hN2).mono ?_; rintro e w' ⟨rfl, mm, rfl⟩; exact ⟨_, rfl, rfl, below_drewN (Below.refl _ _) mm⟩
    | 8, _, ho => by
        cases ho
        rw [if_pos (wanted_none _ rfl)]
        refine wp_value (st_move rfl (hm.get 7 12 (by kernel_rfl))) ⟨_, rfl, rfl, Below.refl _ _⟩
    | 9, _, ho => by
        cases ho
        generalize hW : Region.wanted _ _ = W
        obtain rfl : W = (true == true) := hW.symm.trans (wanted_of rfl rfl rfl (show a.eval (.tmp 13) = .bool true from (hm.get 8 13 (by kernel_rfl))))
        clear hW
        rw [if_pos (show (true == true) = true by decide)]
        refine wp_value (st_move rfl ((hs.keeps (by kernel_rfl)).trans rfl)) ⟨_, rfl, rfl, Below.refl _ _⟩
    | 10, _, ho => by
        cases ho
        generalize hW : Region.wanted _ _ = W
        obtain rfl : W = (true == true) := hW.symm.trans (wanted_of rfl rfl rfl (show a.eval (.tmp 13) = .bool true from (hm.get 8 13 (by kernel_rfl))))
        clear hW
        rw [if_pos (show (true == true) = true by decide)]
        have h1 := eval_getD (hm.get 9 14 (by kernel_rfl)); unfold Oper.wp; simp only [execOp]; go_simp; refine (CF.out w hb).mono ?_; rintro e w' ⟨A8, t8, c8, rfl, rfl, hO8⟩; exact ⟨_, rfl, ⟨A8, c8, rfl, hO8.sl⟩, hO8.2⟩
    | 11, _, ho => by
        cases ho
        generalize hW : Region.wanted _ _ = W
        obtain rfl : W = (true == true) := hW.symm.trans (wanted_of rfl rfl rfl (show a.eval (.tmp 13) = .bool true from (hm.get 8 13 (by kernel_rfl))))
        clear hW
        rw [if_pos (show (true == true) = true by decide)]
        obtain ⟨A9, c9, e9, S9⟩ := (hm.get 10 15 (by kernel_rfl)); have h1 := eval_getD e9; unfold Oper.wp; simp only [execOp]; go_simp; refine (lawFiles_any w A9 F.length c9 F S9 hF).mono ?_; rintro e w' ⟨A8, c8, rfl, hO8⟩; exact ⟨_, rfl, ⟨A8, c8, rfl, hO8.sl⟩, hO8.2⟩
    | 12, _, ho => by
        cases ho
        generalize hW : Region.wanted _ _ = W
        obtain rfl : W = (true == true) := hW.symm.trans (wanted_of rfl rfl rfl (show a.eval (.tmp 13) = .bool true from (hm.get 8 13 (by kernel_rfl))))
        clear hW
        rw [if_pos (show (true == true) = true by decide)]
        refine wp_value (st_move rfl ((hs.keeps (by kernel_rfl)).trans rfl)) ⟨_, rfl, rfl, Below.refl _ _⟩
    | 13, _, ho => by
        cases ho
        generalize hW : Region.wanted _ _ = W
        obtain rfl : W = (true == true) := hW.symm.trans (wanted_of rfl rfl rfl (show a.eval (.tmp 13) = .bool true from (hm.get 8 13 (by kernel_rfl))))
        clear hW
        rw [if_pos (show (true == true) = true by decide)]
        have h1 := eval_getD (hm.get 12 17 (by kernel_rfl)); unfold Oper.wp; simp only [execOp]; go_simp; refine (DF.out w hb).mono ?_; rintro e w' ⟨A8, t8, c8, rfl, rfl, hO8⟩; exact ⟨_, rfl, ⟨A8, c8, rfl, hO8.sl⟩, hO8.2⟩
    | 14, _, ho => by
        cases ho
        generalize hW : Region.wanted _ _ = W
        obtain rfl : W = (true == true) := hW.symm.trans (wanted_of rfl rfl rfl (show a.eval (.tmp 13) = .bool true from (hm.get 8 13 (by kernel_rfl))))
        clear hW
        rw [if_pos (show (true == true) = true by decide)]
        obtain ⟨A9, c9, e9, S9⟩ := (hm.get 11 16 (by kernel_rfl)); have h1 := eval_getD e9; obtain ⟨B9, d9, f9, Z9⟩ := (hm.get 13 18 (by kernel_rfl)); have h2 := eval_getD f9; unfold Oper.wp; simp only [execOp]; go_simp; refine (fsame_yes w A9 B9 F.length c9 d9 F S9 Z9 hF).mono ?_; rintro e w' ⟨rfl, mm, rfl⟩; exact ⟨_, rfl, rfl, below_drewN (Below.refl _ _) mm⟩
    | 15, _, ho => by
        cases ho
        rw [if_pos (wanted_none _ rfl)]
        have h1 := eval_getD (hm.get 8 13 (by kernel_rfl)); have h3 := eval_getD (hm.get 14 19 (by kernel_rfl)); unfold Oper.wp; simp only [execOp]; go_simp; exact ⟨_, rfl, rfl, Below.refl _ _⟩
    | 16, _, ho => by
        cases ho
        rw [if_pos (wanted_none _ rfl)]
        refine wp_value (st_move rfl (hm.get 15 20 (by kernel_rfl))) ⟨_, rfl, rfl, Below.refl _ _⟩
    | 17, _, ho => by
        cases ho
        generalize hW : Region.wanted _ _ = W
        obtain rfl : W = (true == true) := hW.symm.trans (wanted_of rfl rfl rfl (show a.eval (.tmp 21) = .bool true from (hm.get 16 21 (by kernel_rfl))))
        clear hW
        rw [if_pos (show (true == true) = true by decide)]
        refine wp_value (st_move rfl ((hs.keeps (by kernel_rfl)).trans rfl)) ⟨_, rfl, rfl, Below.refl _ _⟩
    | 18, _, ho => by
        cases ho
        generalize hW : Region.wanted _ _ = W
        obtain rfl : W = (true == true) := hW.symm.trans (wanted_of rfl rfl rfl (show a.eval (.tmp 21) = .bool true from (hm.get 16 21 (by kernel_rfl))))
        clear hW
        rw [if_pos (show (true == true) = true by decide)]
        have h1 := eval_getD (hm.get 17 22 (by kernel_rfl)); unfold Oper.wp; simp only [execOp]; go_simp; refine (CC.out w hb).mono ?_; rintro e w' ⟨A8, t8, c8, rfl, rfl, hS8, hb8⟩; exact ⟨_, rfl, ⟨A8, c8, rfl, hS8⟩, hb8⟩
    | 19, _, ho => by
        cases ho
        generalize hW : Region.wanted _ _ = W
        obtain rfl : W = (true == true) := hW.symm.trans (wanted_of rfl rfl rfl (show a.eval (.tmp 21) = .bool true from (hm.get 16 21 (by kernel_rfl))))
        clear hW
        rw [if_pos (show (true == true) = true by decide)]
        refine wp_value (st_move rfl ((hs.keeps (by kernel_rfl)).trans rfl)) ⟨_, rfl, rfl, Below.refl _ _⟩
    | 20, _, ho => by
        cases ho
        generalize hW : Region.wanted _ _ = W
        obtain rfl : W = (true == true) := hW.symm.trans (wanted_of rfl rfl rfl (show a.eval (.tmp 21) = .bool true from (hm.get 16 21 (by kernel_rfl))))
        clear hW
        rw [if_pos (show (true == true) = true by decide)]
        have h1 := eval_getD (hm.get 19 24 (by kernel_rfl)); unfold Oper.wp; simp only [execOp]; go_simp; refine (DC.out w hb).mono ?_; rintro e w' ⟨A8, t8, c8, rfl, rfl, hO8⟩; exact ⟨_, rfl, ⟨A8, c8, rfl, hO8.sl⟩, hO8.2⟩
    | 21, _, ho => by
        cases ho
        generalize hW : Region.wanted _ _ = W
        obtain rfl : W = (true == true) := hW.symm.trans (wanted_of rfl rfl rfl (show a.eval (.tmp 21) = .bool true from (hm.get 16 21 (by kernel_rfl))))
        clear hW
        rw [if_pos (show (true == true) = true by decide)]
        obtain ⟨A9, c9, e9, S9⟩ := (hm.get 18 23 (by kernel_rfl)); have h1 := eval_getD e9; obtain ⟨B9, d9, f9, Z9⟩ := (hm.get 20 25 (by kernel_rfl)); have h2 := eval_getD f9; unfold Oper.wp; simp only [execOp]; go_simp; refine (sameTexts_any A9 B9 K.length K.length c9 d9 K K w S9 Z9 (by omega)).mono ?_; rintro e w' ⟨rfl, mm, rfl⟩; exact ⟨_, rfl, (show Value.bool (decide (K = K)) = .bool true by simp), below_drewN (Below.refl _ _) mm⟩
    | 22, _, ho => by
        cases ho
        rw [if_pos (wanted_none _ rfl)]
        have h1 := eval_getD (hm.get 16 21 (by kernel_rfl)); have h3 := eval_getD (hm.get 21 26 (by kernel_rfl)); unfold Oper.wp; simp only [execOp]; go_simp; exact ⟨_, rfl, rfl, Below.refl _ _⟩
    | 23, _, ho => by
        cases ho
        rw [if_pos (wanted_none _ rfl)]
        refine wp_value (st_move rfl (hm.get 22 27 (by kernel_rfl))) ⟨_, rfl, rfl, Below.refl _ _⟩
    | 24, _, ho => by
        cases ho
        generalize hW : Region.wanted _ _ = W
        obtain rfl : W = (true == true) := hW.symm.trans (wanted_of rfl rfl rfl (show a.eval (.tmp 28) = .bool true from (hm.get 23 28 (by kernel_rfl))))
        clear hW
        rw [if_pos (show (true == true) = true by decide)]
        refine wp_value (st_move rfl ((hs.keeps (by kernel_rfl)).trans rfl)) ⟨_, rfl, rfl, Below.refl _ _⟩
    | 25, _, ho => by
        cases ho
        generalize hW : Region.wanted _ _ = W
        obtain rfl : W = (true == true) := hW.symm.trans (wanted_of rfl rfl rfl (show a.eval (.tmp 28) = .bool true from (hm.get 23 28 (by kernel_rfl))))
        clear hW
        rw [if_pos (show (true == true) = true by decide)]
        have h1 := eval_getD (hm.get 24 29 (by kernel_rfl)); unfold Oper.wp; simp only [execOp]; go_simp; refine (CN.out w hb).mono ?_; rintro e w' ⟨A8, m8, c8, rfl, hS8, hc8, hb8⟩; exact ⟨_, rfl, ⟨A8, m8, c8, rfl, hS8, hc8⟩, hb8⟩
    | 26, _, ho => by
        cases ho
        generalize hW : Region.wanted _ _ = W
        obtain rfl : W = (true == true) := hW.symm.trans (wanted_of rfl rfl rfl (show a.eval (.tmp 28) = .bool true from (hm.get 23 28 (by kernel_rfl))))
        clear hW
        rw [if_pos (show (true == true) = true by decide)]
        refine wp_value (st_move rfl ((hs.keeps (by kernel_rfl)).trans rfl)) ⟨_, rfl, rfl, Below.refl _ _⟩
    | 27, _, ho => by
        cases ho
        generalize hW : Region.wanted _ _ = W
        obtain rfl : W = (true == true) := hW.symm.trans (wanted_of rfl rfl rfl (show a.eval (.tmp 28) = .bool true from (hm.get 23 28 (by kernel_rfl))))
        clear hW
        rw [if_pos (show (true == true) = true by decide)]
        have h1 := eval_getD (hm.get 26 31 (by kernel_rfl)); unfold Oper.wp; simp only [execOp]; go_simp; refine (DN.out w hb).mono ?_; rintro e w' ⟨A8, m8, c8, rfl, hS8, hc8, hb8⟩; exact ⟨_, rfl, ⟨A8, m8, c8, rfl, hS8, hc8⟩, hb8⟩
    | 28, _, ho => by
        cases ho
        generalize hW : Region.wanted _ _ = W
        obtain rfl : W = (true == true) := hW.symm.trans (wanted_of rfl rfl rfl (show a.eval (.tmp 28) = .bool true from (hm.get 23 28 (by kernel_rfl))))
        clear hW
        rw [if_pos (show (true == true) = true by decide)]
        obtain ⟨A9, m9, c9, e9, S9, _⟩ := (hm.get 25 30 (by kernel_rfl)); have h1 := eval_getD e9; obtain ⟨B9, n9, d9, f9, Z9, _⟩ := (hm.get 27 32 (by kernel_rfl)); have h2 := eval_getD f9; unfold Oper.wp; simp only [execOp]; go_simp; refine (sameB_any A9 B9 m9 n9 c9 d9 (encI E) (encI E) w S9 Z9).mono ?_; rintro e w' ⟨rfl, rfl⟩; exact ⟨_, rfl, (show Value.bool (decide (encI E = encI E)) = .bool true by simp), Below.refl _ _⟩
    | 29, _, ho => by
        cases ho
        rw [if_pos (wanted_none _ rfl)]
        have h1 := eval_getD (hm.get 23 28 (by kernel_rfl)); have h3 := eval_getD (hm.get 28 33 (by kernel_rfl)); unfold Oper.wp; simp only [execOp]; go_simp; exact ⟨_, rfl, rfl, Below.refl _ _⟩
    | (n + 30), hi, _ => absurd hi (by omega)
  · cases ho
    have h1 := eval_getD (hm.get 29 34 (by kernel_rfl))
    unfold Oper.wp
    simp only [execOp]
    go_simp
    have hz : a.tmps.size = 35 := hs.size.trans rfl
    have hdf : a.defers = [] := hs.defers.trans rfl
    go_wp2
    refine bodyPost_ret (v := .bool true) (by simp [results, Tryz.results9, go_sem, hz]) hdf ⟨rfl, hb⟩
end Go.Proofs.YtjcelelgebohkaaGreatDoor

/-
  work.Clobber. Conditions: the disk and the index lie in memory; current's and target's files can be read, no more than 400000, their paths no longer than 2147483648 bytes; contents no longer than 1000000000; MaxLen holds an int.
-/
import Derived.Test.YtphnfcgdpdimbaaGreatDoorWorkGet
import Derived.Test.YtphnfcgdpdimbaaGreatDoorWorkId
import Derived.Test.YtphnfcgdpdimbaaGreatDoorKitJ
import Derived.Test.YtphnfcgdpdimbaaGreatDoorWorkSteps
namespace Go.Proofs.YtphnfcgdpdimbaaGreatDoor
open Go.RowKit Go.Shelf
open DiffLaw (fid ofPaths)
open IdxLaw (Ent zE)

/-- is a content the index's at a path? -/
def isIdx (l : List Ent) (p id : List UInt8) : Bool := match IdxLaw.find l (p, 0) with
  | none => false
  | some e => decide (e.id = id)
/-- would a working file be lost? -/
def lostB (L : List DF) (l : List Ent) (cs : List Chg3) (c : List Fil) (p : List UInt8) : Bool := inWayB cs p && (!decide (getE L p = 0) || (!isIdx l p (widL (getB L p)) && !decide (fid c p = widL (getB L p))))
def smallC (L : List DF) : Prop := ∀ x ∈ L, x.2.2.length ≤ 1000000000
theorem getB_len {L : List DF} (h : smallC L) (s : List UInt8) : (getB L s).length ≤ 1000000000 := by
  unfold getB
  split
  · rcases hg : getF L (wname s) with _ | x
    · simp
    · simp only
      rcases ht : takeNum x.2.2 with _ | y
      · simp
      · have h1 := takeNum_len ht
        have h2 := h x (getF_mem hg).1
        simp only
        omega
  · simp
set_option maxRecDepth 100000 in
set_option maxHeartbeats 2000000 in
theorem clobber1_any (w : World) (p m n : Nat) (cap : Int) (L : List DF) (q mi ni : Nat) (l : List Ent) (A : Option Addr) (k ca : Nat) (cs : List Chg3) (C : Option Addr) (j cc : Nat) (c : List Fil) (s : List UInt8) (g9 g4 g5 g6 g : Nat)
    (h9 : w.cell? ⟨g9, 0, none⟩ = some (.func (.func 141) #[] #[.pointer (some ⟨g, 0, none⟩)])) (h4 : w.cell? ⟨g4, 0, none⟩ = some (.pointer (some ⟨p, 0, none⟩))) (h5 : w.cell? ⟨g5, 0, none⟩ = some (.pointer (some ⟨q, 0, none⟩))) (h6 : w.cell? ⟨g6, 0, none⟩ = some (.slice C j cc)) (hg : w.cell? ⟨g, 0, none⟩ = some (.slice A k ca))
    (h : DiskAt w p m n cap L) (hI : IdxAt w q mi l ni) (hA : Sl w 3 A k (cgs cs)) (hk : k ≤ 1000000000) (hC : Sl w 2 C j (fls c)) (hj : j ≤ 1000000000) (hs : s.length ≤ 2147483648) (hl : ∀ x ∈ cs, x.1.length ≤ 2147483648) (hsm : smallC L) (hM : MaxL w) :
    Calls Tryz.prog 70 #[S s, .pointer (some ⟨g9, 0, none⟩), .pointer (some ⟨g4, 0, none⟩), .pointer (some ⟨g5, 0, none⟩), .pointer (some ⟨g6, 0, none⟩)] w fun e w' => e = .returned (.bool (lostB L l cs c s)) ∧ Below w.heap.size w w' := by
  have C1 := inway1_any A k ca cs s g w hg hA hk hs hl
  have HD := Lib.hid h
  have HI := Lib.hid hI
  have HC := Lib.hid hC
  have HM := Lib.hid hM
  have Hsm := Lib.hid (getB_len hsm s)
  have l4 : g4 < w.heap.size := World.block_lt_of_cell? _ _ h4
  have l5 : g5 < w.heap.size := World.block_lt_of_cell? _ _ h5
  have l6 : g6 < w.heap.size := World.block_lt_of_cell? _ _ h6
  clear h hI hC hM hsm hA hg hl
  rcases hd : inWayB cs s with _ | _
  · rw [hd] at C1
    have Hd := Lib.hid hd
    have C1' := Lib.hid C1
    clear C1 hd
    go_enter Tryz.func70, Tryz.ntmps70
    go_wp2_with fail
    refine C1'.out.mono ?_
    rintro e w1 ⟨rfl, b1⟩
    have B1 := Lib.hid b1
    clear b1
    go_wp2
    go_ret
    exact ⟨ret_bool (by unfold lostB; rw [Hd.out]; rfl), B1.out⟩
  · rw [hd] at C1
    have Hd := Lib.hid hd
    have C1' := Lib.hid C1
    clear C1 hd
    obtain ⟨b, hb⟩ : ∃ b, b = getB L s := ⟨_, rfl⟩
    obtain ⟨id, hid⟩ : ∃ id, id = widL b := ⟨_, rfl⟩
    obtain ⟨z, hz⟩ : ∃ z, z = getE L s := ⟨_, rfl⟩
    obtain ⟨nn, hnn⟩ : ∃ nn, nn = getN L s := ⟨_, rfl⟩
    obtain ⟨en, hen⟩ : ∃ en, en = (IdxLaw.find l (s, 0)).getD zE := ⟨_, rfl⟩
    obtain ⟨is, his⟩ : ∃ is, is = (IdxLaw.find l (s, 0)).isSome := ⟨_, rfl⟩
    obtain ⟨f, hf⟩ : ∃ f, f = fid c s := ⟨_, rfl⟩
    have Hb := Lib.hid hb
    have Hid_ := Lib.hid hid
    have Hz := Lib.hid hz
    have Hen := Lib.hid hen
    have His := Lib.hid his
    have Hf := Lib.hid hf
    have CG : Hid (∀ W, Below w.heap.size w W → Calls Tryz.prog 24 #[.pointer (some ⟨p, 0, none⟩), S s] W fun e w' => ∃ (A : Option Addr) (k c : Nat), e = .returned (.tuple #[.slice A k c, I nn, I z]) ∧ Ow W w' 5 1 A k c (u8s b)) := Lib.hid (fun W hW => by
      rw [hnn, hz, hb]
      exact wget_any W p m n cap L s (HD.out.step hW) hs (HM.out.step hW))
    have CF : Hid (∀ W, Below w.heap.size w W → Calls Tryz.prog 48 #[.pointer (some ⟨q, 0, none⟩), S s, .int .i64 0] W fun e w' => e = .returned (.tuple #[entV en, .bool is]) ∧ Below W.heap.size W w') := Lib.hid (fun W hW => by
      rw [hen, his]
      exact find_any W q mi ni l s 0 (HI.out.step hW) ⟨by show s.length ≤ maxLen; simp only [maxLen]; omega, rfl⟩)
    have CT : Hid (∀ W, Below w.heap.size w W → Calls Tryz.prog 71 #[.slice C j cc, S s] W fun e w' => e = .returned (S f) ∧ Below W.heap.size W w') := Lib.hid (fun W hW => by
      rw [hf]
      exact treeFind_any C j cc c s W (HC.out.below hW) hj)
    have hbl : b.length ≤ 1000000000 := by rw [hb]; exact Hsm.out
    have hres : lostB L l cs c s = (!decide (z = 0) || (!(is && decide (en.id = id)) && !decide (f = id))) := by
      unfold lostB isIdx
      rw [Hd.out, Hf.out, Hid_.out, Hz.out, His.out, Hen.out, Hb.out, Bool.true_and]
      cases IdxLaw.find l (s, 0) <;> rfl
    have HR := Lib.hid hres
    clear hb hid hz hnn hen his hf Hsm Hd Hb Hen His Hf Hz hres
    have ways : ((z == 0) = false ∧ (z != 0) = true) ∨ (z = 0 ∧ is = true ∧ (en.id == id) = true) ∨ (z = 0 ∧ is = true ∧ (en.id == id) = false) ∨ (z = 0 ∧ is = false) := by
      by_cases h0 : z = 0
      · subst h0
        cases is <;> cases (en.id == id) <;> simp
      · left
        simp [h0]
    rcases ways with ⟨w1, w2⟩ | ⟨rfl, rfl, w1⟩ | ⟨rfl, rfl, w1⟩ | ⟨rfl, rfl⟩
    all_goals
      go_enter Tryz.func70, Tryz.ntmps70
      go_wp2_with fail
      refine C1'.out.mono ?_
      rintro e V1 ⟨rfl, b1⟩
      have B1 := Lib.hid b1
      have r4 := (b1.cell (p := ⟨g4, 0, none⟩) l4).trans h4
      have CG1 := Lib.hid (CG.out V1 b1)
      clear b1
      go_wp2_with fail
      refine CG1.out.mono ?_
      rintro e V2 ⟨A2, k2, c2, rfl, hO2⟩
      have B2 := Lib.hid (bstep B1.out hO2.2)
      have e2 : b.length = k2 := ow_len hO2
      have CI := Lib.hid (wid_any A2 k2 c2 b V2 hO2.sl (by omega))
      rw [← Hid_.out] at CI
      clear hO2 e2 r4
      go_wp2_with fail
      refine CI.out.mono ?_
      rintro e V3 ⟨rfl, b3⟩
      have B3 := Lib.hid (bstep B2.out b3)
      have r5 := (B3.out.cell (p := ⟨g5, 0, none⟩) l5).trans h5
      have CF3 := Lib.hid (CF.out V3 B3.out)
      clear b3
      go_wp2_with fail
      refine CF3.out.mono ?_
      rintro e V4 ⟨rfl, b4⟩
      have B4 := Lib.hid (bstep B3.out b4)
      obtain ⟨V5, hV5⟩ : ∃ V5, V5 = V4.alloc (.cells #[S en.path, I en.stage, S en.id, I en.size, I en.stamp] 40) := ⟨_, rfl⟩
      have b5 : Below V4.heap.size V4 V5 := by rw [hV5]; exact balloc (Below.refl _ V4) _
      have B5 := Lib.hid (bstep B4.out b5)
      have rE : ∀ i, V5.cell? ⟨V4.heap.size, i, none⟩ = #[S en.path, I en.stage, S en.id, I en.size, I en.stamp][i]? := by rw [hV5]; exact (Blk.new V4 _ _).cell
      have r6 := (B5.out.cell (p := ⟨g6, 0, none⟩) l6).trans h6
      have CT5 := Lib.hid (CT.out V5 B5.out)
      clear b4 b5 r5
      subst hV5
      simp only [entV]
    · go_wp2
      go_ret
      exact ⟨ret_bool (by rw [HR.out, decide_eq_false (by simpa using w1)]; rfl), B5.out⟩
    · go_wp2
      go_ret
      exact ⟨ret_bool (by rw [HR.out, decide_eq_true (by simpa using w1 : en.id = id)]; rfl), B5.out⟩
    · go_wp2_with (go_at_call 71; refine CT5.out.mono ?_; rintro e V6 ⟨rfl, b6⟩; have B6 := Lib.hid (bstep B5.out b6); clear b6)
      go_ret
      exact ⟨ret_bool (by rw [HR.out, decide_eq_false (by simpa using w1 : ¬ en.id = id), Bool.eq_iff_iff]; simp), B6.out⟩
    · go_wp2_with (go_at_call 71; refine CT5.out.mono ?_; rintro e V6 ⟨rfl, b6⟩; have B6 := Lib.hid (bstep B5.out b6); clear b6)
      go_ret
      exact ⟨ret_bool (by rw [HR.out, Bool.eq_iff_iff]; simp), B6.out⟩
set_option maxRecDepth 100000 in
set_option maxHeartbeats 4000000 in
theorem clobber_any (w : World) (p m n : Nat) (cap : Int) (L : List DF) (q mi ni : Nat) (l : List Ent) (C T : Option Addr) (j k c d : Nat) (a b : List Fil) (h : DiskAt w p m n cap L) (hL : L.length ≤ 1000000) (hI : IdxAt w q mi l ni) (hM : MaxL w) (hsm : smallC L)
    (hA : Sl w 2 C j (fls a)) (hB : Sl w 2 T k (fls b)) (hj : j ≤ 400000) (hk : k ≤ 400000) (hpa : ∀ f ∈ a, f.1.length ≤ 2147483648) (hpb : ∀ f ∈ b, f.1.length ≤ 2147483648) :
    Calls Tryz.prog 26 #[.pointer (some ⟨p, 0, none⟩), .pointer (some ⟨q, 0, none⟩), .slice C j c, .slice T k d] w fun e w' => ∃ (A' : Option Addr) (n' c' : Nat) (ns ps : List (List UInt8)), e = .returned (.slice A' n' c') ∧ ns.Perm (L.map (·.1)) ∧ ns.Pairwise (· < ·) ∧ DiffLaw.Paths ps a b ∧ n' = ((listOf ns).filter (lostB L l (ofPaths ps a b) a)).length ∧ Ow w w' 9 1 A' n' c' (strs ((listOf ns).filter (lostB L l (ofPaths ps a b) a))) := by
  have HD := Lib.hid h
  have HI := Lib.hid hI
  have HM := Lib.hid hM
  have HA := Lib.hid hA
  have HB := Lib.hid hB
  have HPa := Lib.hid hpa
  have HPb := Lib.hid hpb
  have Hsm := Lib.hid hsm
  obtain ⟨w3, hw3⟩ : ∃ w3, w3 = ((w.alloc (.cells #[.pointer (some ⟨p, 0, none⟩)] 29)).alloc (.cells #[.pointer (some ⟨q, 0, none⟩)] 31)).alloc (.cells #[.slice C j c] 80) := ⟨_, rfl⟩
  obtain ⟨g3, hg3⟩ : ∃ g3, g3 = w.heap.size := ⟨_, rfl⟩
  have b3 : Below w.heap.size w w3 := by rw [hw3]; exact balloc (balloc (balloc (Below.refl _ w) _) _) _
  have e4 : Blk w3 g3 29 #[.pointer (some ⟨p, 0, none⟩)] := by rw [hw3, hg3]; exact ((Blk.new w _ _).alloc _).alloc _
  have e5 : Blk w3 (g3 + 1) 31 #[.pointer (some ⟨q, 0, none⟩)] := by rw [hw3, hg3]; have := (Blk.new (w.alloc (.cells #[.pointer (some ⟨p, 0, none⟩)] 29)) 31 #[.pointer (some ⟨q, 0, none⟩)]).alloc (.cells #[.slice C j c] 80); rwa [World.size_alloc] at this
  have e6 : Blk w3 (g3 + 2) 80 #[.slice C j c] := by rw [hw3, hg3]; have := Blk.new ((w.alloc (.cells #[.pointer (some ⟨p, 0, none⟩)] 29)).alloc (.cells #[.pointer (some ⟨q, 0, none⟩)] 31)) 80 #[.slice C j c]; rwa [World.size_alloc, World.size_alloc] at this
  have B3 := Lib.hid b3
  have E4 := Lib.hid e4
  have E5 := Lib.hid e5
  have E6 := Lib.hid e6
  have r6 := e6.cell
  have CD := Lib.hid (pairDiff_any C T j k c d a b w3 (hA.below b3) (hB.below b3) hj hk (fun f hf => Nat.le_trans (hpa f hf) (by simp only [maxLen]; omega)) (fun f hf => Nat.le_trans (hpb f hf) (by simp only [maxLen]; omega)))
  clear h hI hM hA hB hpa hpb hsm b3 e4 e5 e6
  go_enter Tryz.func26, Tryz.ntmps26
  go_wp2_with fail
  simp only [← hg3, ← hw3, Nat.add_assoc, Nat.reduceAdd]
  refine CD.out.mono ?_
  rintro e w4 ⟨A2, t, c2, ps, rfl, ht, hps, hO2⟩
  have B4 := Lib.hid (bstep B3.out hO2.2)
  have HPs := Lib.hid hps
  have Ht := Lib.hid ht
  have HO2 := Lib.hid hO2
  obtain ⟨cs, hcs⟩ : ∃ cs, cs = ofPaths ps a b := ⟨_, rfl⟩
  have Hcs := Lib.hid hcs
  rw [← hcs] at HO2
  have E44 := Lib.hid (E4.out.step hO2.2)
  have E54 := Lib.hid (E5.out.step hO2.2)
  have E64 := Lib.hid (E6.out.step hO2.2)
  have CI := Lib.hid (inway_any A2 t c2 w4)
  clear CD hO2 hps ht hcs hw3 hg3 r6 E4 E5 E6
  go_wp2_with fail
  refine CI.out.mono ?_
  rintro e w5 ⟨rfl, hw5⟩
  obtain ⟨g, hg⟩ : ∃ g, g = w4.heap.size := ⟨_, rfl⟩
  have hb5 : Below w4.heap.size w4 w5 := by rw [hw5]; exact balloc (Below.refl _ w4) _
  have hblk : Blk w5 g 59 #[.slice A2 t c2] := by rw [hw5, hg]; exact Blk.new w4 _ _
  have hs5 : w5.heap.size = g + 1 := by rw [hw5, hg]; simp
  rw [← hg]
  have Hs5 := Lib.hid hs5
  obtain ⟨w6, hw6⟩ : ∃ w6, w6 = w5.alloc (.cells #[.func (.func 141) #[] #[.pointer (some ⟨g, 0, none⟩)]] 159) := ⟨_, rfl⟩
  have hb6 : Below w5.heap.size w5 w6 := by rw [hw6]; exact balloc (Below.refl _ w5) _
  have e9 : Blk w6 (g + 1) 159 #[.func (.func 141) #[] #[.pointer (some ⟨g, 0, none⟩)]] := by rw [hw6, ← hs5]; exact Blk.new w5 _ _
  have hb46 := bstep hb5 hb6
  have B6 := Lib.hid (bstep B4.out hb46)
  have E9 := Lib.hid e9
  have Eg := Lib.hid (hblk.step hb6)
  have E46 := Lib.hid (E44.out.step hb46)
  have E56 := Lib.hid (E54.out.step hb46)
  have E66 := Lib.hid (E64.out.step hb46)
  have HS6 := Lib.hid ((HO2.out.keep hb46).sl)
  have r46 := E46.out.cell
  have CL := Lib.hid (wlist_any w6 p m n cap L (HD.out.step B6.out) hL (HM.out.step B6.out))
  have Hw6 := Lib.hid hw6
  have r45 := (E44.out.step hb5).cell
  have lg5 : g3 < w5.heap.size := (E44.out.step hb5).lt
  clear hw5 hg hb5 hblk hs5 hb6 e9 hb46 E44 E54 E64 CI hw6
  go_wp2_with fail
  rw [← Hw6.out]
  rw [Hs5.out]
  refine CL.out.mono ?_
  rintro e w7 ⟨A7, k7, c7, ns, rfl, hpm, hri, hO7⟩
  have B7 := Lib.hid (bstep B6.out hO7.2)
  have HO7 := Lib.hid hO7
  have Hpm := Lib.hid hpm
  have Hri := Lib.hid hri
  have HPl : Hid (∀ x ∈ listOf ns, x.length ≤ 2147483648) := Lib.hid (fun x hx => by
    obtain ⟨s, hs, e⟩ := List.mem_filterMap.1 hx
    have h1 : s.length ≤ 200 := by
      obtain ⟨y, hy, e2⟩ := List.mem_map.1 (hpm.mem_iff.1 hs)
      rw [← e2]
      exact (okName_len (HD.out.name y hy)).2
    unfold pathOf at e
    split at e
    · have e2 := Option.some.inj e
      have := trim_len s [119, 47]
      rw [← e2]; omega
    · cases e)
  have HCl : Hid (∀ x ∈ cs, x.1.length ≤ 2147483648) := Lib.hid (fun x hx => by
    rw [Hcs.out] at hx
    obtain ⟨h1, _⟩ := DiffLaw.of_mem hx
    rcases (HPs.out.2 x.1).1 h1 with h2 | h2
    · obtain ⟨f, hf, e⟩ := List.mem_map.1 h2
      rw [← e]; exact HPa.out f hf
    · obtain ⟨f, hf, e⟩ := List.mem_map.1 h2
      rw [← e]; exact HPb.out f hf)
  have hk7 : k7 ≤ 1000000 := by
    have h1 : (listOf ns).length = k7 := strs_count hO7.sl
    have h2 : (listOf ns).length ≤ ns.length := List.length_filterMap_le _ _
    have h3 := hpm.length_eq
    rw [List.length_map] at h3
    omega
  have CC := Lib.hid (chosenS_any 70 #[.pointer (some ⟨g + 1, 0, none⟩), .pointer (some ⟨g3, 0, none⟩), .pointer (some ⟨g3 + 1, 0, none⟩), .pointer (some ⟨g3 + 2, 0, none⟩)] (enters_of Tryz.func70 (by kernel_rfl) rfl) (lostB L l cs a) A7 k7 c7 (listOf ns) w7 hO7.sl (by omega)
    (fun x hx V hb => by
      have bb := bstep hO7.2 hb
      exact clobber1_any V p m n cap L q mi ni l A2 t c2 cs C j c a x (g + 1) g3 (g3 + 1) (g3 + 2) g ((E9.out.step bb).cell 0) ((E46.out.step bb).cell 0) ((E56.out.step bb).cell 0) ((E66.out.step bb).cell 0) ((Eg.out.step bb).cell 0) (HD.out.step (bstep B6.out bb)) (HI.out.step (bstep B6.out bb)) (HS6.out.below bb) (by have := Ht.out; omega) (HA.out.below (bstep B6.out bb)) (by omega) (HPl.out x hx) HCl.out Hsm.out (HM.out.step (bstep B6.out bb))))
  clear hpm hri hO7 CL r46 hk7 r45 lg5
  go_wp2_with fail
  refine CC.out.mono ?_
  rintro e w8 ⟨A8, k8, c8, rfl, hk8, hO8⟩
  have HO8 := Lib.hid hO8
  have Hk8 := Lib.hid hk8
  clear hk8 hO8 CC
  go_wp2
  go_ret
  refine ⟨A8, k8, c8, ns, ps, rfl, Hpm.out, Hri.out, HPs.out, ?_, ?_⟩
  · rw [← Hcs.out]; exact Hk8.out
  · rw [← Hcs.out]; exact HO8.out.since B7.out
end Go.Proofs.YtphnfcgdpdimbaaGreatDoor

/-
  Base texts, merged by a program (mkkit.py): words for slices, blocks, maps, regions that draw their order, the plain law of paths and of an index. Conditions: each lemma's own.
-/
import Derived.Test.YtphnfcgdpdimbaaGreatDoorKitI
import Derived.Test.YtphnfcgdpdimbaaGreatDoorWSame
import Derived.Test.YtphnfcgdpdimbaaGreatDoorKitQ
import Derived.Deep.CutRange
/-
  What a file that is put, and set in the index by its id, answers to Same. Plain lemmas; no condition.
-/
namespace Go.Proofs.YtphnfcgdpdimbaaGreatDoor
open Go.RowKit
open IdxLaw (Ent)
open PathLaw (named)

section
variable {cap : Int} {L : List DF} {s bs : List UInt8} {st : Int}
theorem put_ways (h : putAns cap L s bs st = 0) : putBad s st bs.length = false ∧ putFull cap L s bs st = false := by
  unfold putAns at h
  cases h1 : putBad s st bs.length with
  | true => rw [h1] at h; simp at h
  | false =>
    cases h2 : putFull cap L s bs st with
    | true => rw [h1, h2] at h; simp at h
    | false => exact ⟨rfl, rfl⟩
theorem put_right (h : putBad s st bs.length = false) : workedB s = true ∧ 0 ≤ st ∧ st ≤ 1099511627776 ∧ bs.length ≤ 1048576 := by
  unfold putBad at h
  simp only [Bool.or_eq_false_iff, Bool.not_eq_false', decide_eq_false_iff_not] at h
  obtain ⟨h1, h2, h3, h4⟩ := h
  exact ⟨h1, by omega, by omega, by omega⟩
theorem put_got (h : putAns cap L s bs st = 0) (hd : Hd) : getE (putL cap L s bs st hd) s = 0 ∧ getN (putL cap L s bs st hd) s = st.toNat ∧ getB (putL cap L s bs st hd) s = bs := by
  obtain ⟨h1, h2⟩ := put_ways h
  obtain ⟨hw, h3, h4, _⟩ := put_right h1
  have ht : takeNum (wbytes st.toNat bs) = some (st.toNat, bs) := take_putN (by unfold top62; omega) bs
  unfold putL
  rw [h1, h2]
  simp only [Bool.false_eq_true, if_false]
  unfold putF getE getN getB
  rw [if_pos hw, if_pos hw, if_pos hw, getF_cons, if_pos rfl]
  simp only
  rw [ht]
  exact ⟨rfl, rfl, rfl⟩
/-- the entry of a file that is put -/
def entW (s bs : List UInt8) (st : Int) : Ent := ⟨s, 0, widL bs, (bs.length : Int), st⟩
theorem entW_right (h : putAns cap L s bs st = 0) : IdxLaw.right (entW s bs st) = true := by
  obtain ⟨hw, h3, h4, h5⟩ := put_right (put_ways h).1
  have hn : named s = true := by
    unfold workedB at hw
    exact (Bool.and_eq_true_iff.1 hw).1
  unfold IdxLaw.right entW IdxLaw.inN IdxLaw.bare
  simp only [Bool.and_eq_true, decide_eq_true_eq, Bool.or_eq_true]
  exact ⟨hn, by omega, by omega, widL_len h5, ⟨by omega, by omega⟩, ⟨h3, h4⟩, .inl trivial⟩
theorem entW_set (h : putAns cap L s bs st = 0) (li : List Ent) : IdxLaw.set li (entW s bs st) = (0, entW s bs st :: IdxLaw.clear li s) := set_yes (entW_right h) rfl
theorem entW_find (l : List Ent) : IdxLaw.find (entW s bs st :: l) (s, 0) = some (entW s bs st) := by
  unfold IdxLaw.find
  rw [List.find?_cons_of_pos]
  exact decide_eq_true rfl
/-- it is the same -/
theorem same_put (h : putAns cap L s bs st = 0) (hd : Hd) (l : List Ent) (now : Int) : sameB (putL cap L s bs st hd) (entW s bs st :: l) s now = true := by
  obtain ⟨h1, h2, h3⟩ := put_got h hd
  unfold sameB
  rw [h1, h2, h3, entW_find]
  simp [entW]
/-- with another content, at the time at which it is asked, it is not -/
theorem same_other {cs : List UInt8} (h : putAns cap L s cs st = 0) (hd : Hd) (l : List Ent) (hne : widL cs ≠ widL bs) : sameB (putL cap L s cs st hd) (entW s bs st :: l) s st = false := by
  obtain ⟨h1, h2, h3⟩ := put_got h hd
  unfold sameB
  have h0 : ((st.toNat : Nat) : Int) = st := by
    have := (put_right (put_ways h).1).2.1
    omega
  rw [h1, h2, h3, entW_find, h0]
  have : widL bs ≠ widL cs := fun e => hne e.symm
  simp [entW, freshB, this]
end
theorem clear_len (l : List Ent) (s : List UInt8) : (IdxLaw.clear l s).length ≤ l.length := List.length_filter_le _ _
end Go.Proofs.YtphnfcgdpdimbaaGreatDoor

/-
  work.Status: no path that it tells is the same. Conditions: the disk and the index lie in memory, no more than 1000000 files and entries; paths are no longer than 2147483648 bytes; MaxLen holds an int.
-/
namespace Go.Proofs.YtphnfcgdpdimbaaGreatDoor
open Go.RowKit
open IdxLaw (Ent sortE)

theorem wpList_lookR {P : Program} (w : World) {ops : Array Oper} {rest : List Oper} {o : Oper} {a : Act} {Q : Exit → Act → World → Prop} (hw : Region.wanted o (yielded ops a.tmps) = true) (m x : Operand) (t : TypeId) (hop : o.op = Op.lookup t m x false) (u v y : Value)
    (hm : a.eval m = u) (hx : a.eval x = v) (hrun : (Instr.lookup t u v false).run P w = .ok y w) (hK : wpList P ops Q rest (a.put o.dst y) w) : wpList P ops Q (o :: rest) a w := by
  refine wpList_step fun K' hK' => ?_
  rw [if_pos hw]
  unfold Oper.wp
  simp [execOp, hop, hm, hx, hrun, Result.andThen]
  exact hK' _ _ hK
/-- a world up to a block, and no further -/
def cutW (w : World) (B : Nat) : World := { w with heap := w.heap.extract 0 B }
theorem cutW_size {w : World} {B : Nat} (h : B ≤ w.heap.size) : (cutW w B).heap.size = B := by simp [cutW]; omega
theorem cutW_below {w : World} {B : Nat} (h : B ≤ w.heap.size) : Below B (cutW w B) w := ⟨rfl, rfl, rfl, by rw [cutW_size h]; exact h, fun k hk => by
  show w.heap[k]? = (w.heap.extract 0 B)[k]?
  rw [Array.getElem?_extract, if_pos (by omega), Nat.zero_add]⟩
/-- a row of one's own, counted from a world that is as this one -/
theorem Ow.turn {V w w' : World} {sz n c : Nat} {e : TypeId} {A : Option Addr} {xs : List Value} {row : Option Nat} (h : Ow V w e sz A n c xs) (hg : w.grownBy w' row) (hne : (Value.slice A n c).ownBlock = none ∨ (Value.slice A n c).ownBlock ≠ row) :
    ∃ V', V'.heap.size = V.heap.size ∧ Ow V' w' e sz A n c xs := by
  have h1 : V.heap.size ≤ w'.heap.size := Nat.le_trans h.2.size hg.size
  exact ⟨cutW w' V.heap.size, cutW_size h1, by rw [cutW_size h1]; exact h.1.kept hg hne, by rw [cutW_size h1]; exact cutW_below h1⟩
theorem below_turn {w V wr w5 : World} (hb : Below w.heap.size w wr) (h1 : Below V.heap.size V wr) (h2 : Below V.heap.size V w5) (hB : w.heap.size ≤ V.heap.size) : Below w.heap.size w w5 :=
  ⟨h2.os.trans (h1.os.symm.trans hb.os), h2.tape.trans (h1.tape.symm.trans hb.tape), h2.output.trans (h1.output.symm.trans hb.output), Nat.le_trans hB h2.size, fun k hk => ((h2.block k (by omega)).trans (h1.block k (by omega)).symm).trans (hb.block k hk)⟩
set_option maxHeartbeats 8000000 in
set_option maxRecDepth 100000 in
theorem wstatus_any (w : World) (p m n : Nat) (cap : Int) (L : List DF) (q mi ni : Nat) (li : List Ent) (now : Int) (h : DiskAt w p m n cap L) (hI : IdxAt w q mi li ni) (hni : ni ≤ 1000000) (hM : MaxL w)
    (hsm : smallC L) (hl : L.length + li.length ≤ 1000000) (hli : ∀ e ∈ li, e.path.length ≤ 150) :
    Calls Tryz.prog 11 #[.pointer (some ⟨p, 0, none⟩), .pointer (some ⟨q, 0, none⟩), I now] w fun e w' => ∃ (A : Option Addr) (t c : Nat) (xs : List Fil), e = .returned (.slice A t c) ∧ t ≤ 1000000 ∧ Sl w' 2 A t (fls xs) ∧ (∀ y ∈ xs, sameB L li y.1 now = false) ∧ Below w.heap.size w w' := by
  obtain ⟨i0, hi0, hz0, hz1, hz2⟩ := info_parts Tryz.infoStp
  obtain ⟨j0, hj0, hy0, hy1, hy2⟩ := info_parts Tryz.infoStr
  have HD := Lib.hid h
  have HI := Lib.hid hI
  have HM := Lib.hid hM
  have Hsm := Lib.hid hsm
  obtain ⟨m7, hm7⟩ : ∃ m7, m7 = w.heap.size := ⟨_, rfl⟩
  obtain ⟨w1, hw1⟩ : ∃ w1, w1 = w.alloc (.map #[] 0) := ⟨_, rfl⟩
  have hm0 : MapIs seenC w1 m7 0 (fun _ => none) := by rw [hw1, hm7]; exact MapIs.made seenC w
  have HM0 := Lib.hid hm0
  have b1 : Below w.heap.size w w1 := by rw [hw1]; exact balloc (Below.refl _ w) _
  have hs1 : w1.heap.size = m7 + 1 := by rw [hw1, hm7]; simp
  have HS1 := Lib.hid hs1
  have B1 := Lib.hid b1
  have HB1 : Hid (w.heap.size ≤ w1.heap.size) := Lib.hid b1.size
  have HN := Lib.hid (show ∀ s ∈ L.map (·.1), s.length ≤ 200 from fun s hs => by
    obtain ⟨x, hx, rfl⟩ := List.mem_map.1 hs
    exact (okName_len (h.name x hx)).2)
  have CL := Lib.hid (wlist_any w1 p m n cap L (h.step b1) (by omega) (hM.step b1))
  have hmm := @run_makeMap Tryz.prog
  have hsE := Lib.hid (IdxLaw.sortE_perm li)
  obtain ⟨E, hE⟩ : ∃ E, E = sortE li := ⟨_, rfl⟩
  rw [← hE] at hsE
  have HE := Lib.hid hE
  have Hli : Hid (∀ e ∈ E, e.path.length ≤ 150) := Lib.hid (fun e he => hli e (hsE.out.mem_iff.1 he))
  have HEl : Hid (E.length = li.length) := Lib.hid hsE.out.length_eq
  obtain ⟨N1, hN1⟩ : ∃ N1, N1 = li.length := ⟨_, rfl⟩
  rw [← hN1] at hl HEl
  have HN1 := Lib.hid hN1
  have Hl := Lib.hid hl
  have Hni := Lib.hid hni
  clear h hI hM hsm hm0 b1 hs1 hE hli hsE hN1 hl hni
  go_enter Tryz.func11, Tryz.ntmps11
  go_wp2_with fail
  simp only [← hm7]
  rw [← hw1]
  have Hm7 := Lib.hid hm7
  clear hm7 hw1 hmm
  refine CL.out.mono ?_
  rintro e w2 ⟨A2, k2, c2, ns, rfl, hpm, hri, hO2⟩
  have B2 := Lib.hid (bstep B1.out hO2.2)
  have HM2 := Lib.hid (HM0.out.step hO2.2)
  have hO2' := hO2
  have HO2 := Lib.hid hO2'
  have hk2 : k2 ≤ L.length := by
    have h1 : (listOf ns).length = k2 := strs_count hO2.sl
    have h2 : (listOf ns).length ≤ ns.length := List.length_filterMap_le _ _
    have h3 := hpm.length_eq
    rw [List.length_map] at h3
    omega
  have Hx2 : Hid (∀ x ∈ listOf ns, x.length ≤ 2147483648) := Lib.hid (fun x hx => by
    obtain ⟨s, hs, e⟩ := List.mem_filterMap.1 hx
    have h1 := HN.out s (hpm.mem_iff.1 hs)
    unfold pathOf at e
    split at e
    · have e2 := Option.some.inj e
      have := trim_len s [119, 47]
      rw [← e2]; omega
    · cases e)
  have Hk2 := Lib.hid hk2
  have CE := Lib.hid (entries_any w2 q mi ni li (HI.out.step B2.out) Hni.out)
  rw [← HE.out, ← HN1.out] at CE
  clear hpm hri hO2 hO2' hk2 CL HN HM0 HE
  go_wp2_with fail
  refine CE.out.mono ?_
  rintro e w3 ⟨A3, c3, rfl, hO3⟩
  have HT3 := Lib.hid hO3.slT
  have B3 := Lib.hid (bstep B2.out hO3.2)
  have HM3 := Lib.hid (HM2.out.step hO3.2)
  have HO3 := Lib.hid (HO2.out.keep hO3.2)
  clear hO3 CE HO2 HM2
  go_wp2
  go_loopw [8, 24] (fun o i wr => ∃ (k co t : Nat) (Ao : Option Addr) (xs : List (List UInt8)), i = .int .i64 k ∧ o = .slice Ao t co ∧ Hid (k ≤ N1) ∧ Hid (t ≤ L.length + k) ∧ Hid (∀ x ∈ xs, x.length ≤ 2147483648) ∧ Hid (∃ V, V.heap.size = w1.heap.size ∧ Ow V wr 9 1 Ao t co (strs xs)) ∧ Hid (∃ f, MapIs seenC wr m7 k f) ∧ Hid (KeepT 40 w3 wr) ∧ Hid (Below w.heap.size w wr)) (fun _ i _ => N1 - (intOf i).toNat)
  case atStart => exact ⟨0, c2, k2, A2, listOf ns, rfl, rfl, Lib.hid (Nat.zero_le _), Lib.hid (by have := Hk2.out; omega), Hx2, Lib.hid ⟨w1, rfl, HO3.out⟩, Lib.hid ⟨_, HM3.out⟩, Lib.hid (KeepT.refl _ _), B3⟩
  case round =>
    obtain ⟨k, co, t, Ao, xs, rfl, rfl, hk, ht, Hxs, HV, Hf, HK, HBr⟩ := hrel
    have hNb : N1 ≤ 1000000 := by have := Hl.out; omega
    by_cases hlt : k < N1
    · obtain ⟨b, off, x, rfl, _, hx, x0, x1, x2, x3, x4⟩ := (HT3.out.keep HK.out).sl.ent hlt
      have Hx := Lib.hid (Hli.out x (List.mem_of_getElem? hx))
      clear hx
      obtain ⟨path, stage, id, size, stamp⟩ := x
      simp only at Hx
      obtain ⟨f, hf⟩ := Hf.out
      obtain ⟨V, hVs, hV⟩ := HV.out
      obtain ⟨W1, hW1⟩ : ∃ W1, W1 = wr.alloc (.cells #[S path, I stage, S id, I size, I stamp] 40) := ⟨_, rfl⟩
      obtain ⟨g, hg⟩ : ∃ g, g = wr.heap.size := ⟨_, rfl⟩
      have HG1 : Hid (Blk W1 g 40 #[S path, I stage, S id, I size, I stamp]) := Lib.hid (by rw [hW1, hg]; exact Blk.new wr _ _)
      have bW : Below wr.heap.size wr W1 := by rw [hW1]; exact balloc (Below.refl _ wr) _
      have hmW := hf.step bW
      have HmW := Lib.hid hmW
      have HOW := Lib.hid (hV.keep bW)
      have HKW := Lib.hid (HK.out.step bW)
      have HBW := Lib.hid (bstep HBr.out bW)
      have HVs := Lib.hid hVs
      have rg := HG1.out.cell
      have hkm : k < maxLen := by have := Hl.out; simp only [maxLen]; omega
      have Hgp : Hid (seenC.good path) := Lib.hid (show path.length ≤ maxLen by have := Hx.out; simp only [maxLen]; omega)
      have HnoC := Lib.hid (fun (cs : Array Value) (fr : Nat × Nat) => hmW.no_cells (t := 40) cs fr)
      have Hne := Lib.hid (hmW.ne_own HOW.out.1)
      have q1 : Hid (t + 1 ≤ maxLen) := Lib.hid (by have := ht.out; have := Hl.out; simp only [maxLen]; omega)
      have q2 : Hid ((t + 1) * 16 ≤ 140737488355328) := Lib.hid (by have := ht.out; have := Hl.out; omega)
      have hgm : Hid (some g ≠ some m7) := Lib.hid (by have := hf.lt; rw [hg]; intro h; injection h; omega)
      have HW1 := Lib.hid hW1.symm
      have Hg := Lib.hid hg.symm
      clear hVs hV hf bW hW1 hg
      by_cases hs : stage = 0
      · subst hs
        go_wp2_with (first
          | (at_mapUpdate; rw [HW1.out]; simp only [Hg.out]; clear x0 x1 x2 x3 x4; refine wpList_store _ rfl _ _ _ 111 rfl seenC Tryz.underlying111 m7 k _ rfl hmW hkm path rfl Hgp.out 1 rfl ?_; intro W2 hm3 hg3; have HM3' := Lib.hid hm3; have HG3 := Lib.hid hg3; have HG2 := Lib.hid (HG1.out.grown hg3 hgm.out); obtain ⟨V', hV's, hV'⟩ := HOW.out.turn hg3 (.inr (Ne.symm Hne.out)); have HV's := Lib.hid (hV's.trans HVs.out); have HO6 := Lib.hid (hV'.alloc (.cells #[S path] 9)); have HS6 := Lib.hid (sl_one W2 9 (S path)); clear rg hmW hm3 hg3 hV' hV's; have rg := HG2.out.cell)
          | (at_builtin; refine wpList_append_sl _ rfl (.tmp 34) (.tmp 37) _ rfl V' 9 j0 _ 1 16 Tryz.underlying52 hj0 hy0 hy1 hy2 rfl (by decide) Ao t co _ rfl HO6.out _ 1 1 [S path] rfl HS6.out (one_one rfl) q1.out q2.out ?_; intro A5 c5 w5 hO5 hg5 hat5; have HO5 := Lib.hid hO5; have HG5 := Lib.hid hg5; have Hb6 := Lib.hid hat5; clear hO5 hg5 hat5))
        go_roundw
        case rel =>
          have hOb := Hb6.out
          have bA : Below W2.heap.size W2 (W2.alloc (.cells #[S path] 9)) := balloc (Below.refl _ _) _
          have hm6 := (HM3'.out.step bA).grown HG5.out (Ne.symm (fun e => (HM3'.out.step bA).ne_own HO6.out.1 e.symm))
          refine ⟨k + 1, c5, t + 1, A5, xs ++ [path], by go_num, rfl, Lib.hid hlt, Lib.hid (by have := ht.out; omega), Lib.hid (fun y hy => ?_), Lib.hid ⟨V', HV's.out, by have := HO5.out; simpa [strs] using this⟩, Lib.hid ⟨_, hm6⟩, Lib.hid ?_, Lib.hid ?_⟩
          · rcases List.mem_append.1 hy with hy | hy
            · exact Hxs.out y hy
            · simp at hy; rw [hy]; have := Hx.out; omega
          · refine (((HKW.out.grown HG3.out (fun j e cs fr => by cases e; exact HnoC.out cs fr)).step bA).grown HG5.out (fun j e cs fr => ?_))
            exact own_type HO6.out.1 (by decide) j e cs fr
          · refine ((HBW.out.grown HG3.out HBW.out.size (fun j e => by cases e; have := Hm7.out; omega)).alloc (Nat.le_trans HBW.out.size HG3.out.size) _).grown HG5.out ?_ (fun j e => ?_)
            · have h1 := HBW.out.size; have h2 := HG3.out.size; have h3 := bA.size; omega
            · have h1 := (HO6.out.1.lt j e).1
              rw [HV's.out] at h1
              have := HB1.out
              omega
        case measure => simp [intOf]; omega
      · go_wp2_with (at_mapUpdate; rw [HW1.out]; simp only [Hg.out]; clear x0 x1 x2 x3 x4; refine wpList_store _ rfl _ _ _ 111 rfl seenC Tryz.underlying111 m7 k _ rfl hmW hkm path rfl Hgp.out 1 rfl ?_; intro W2 hm3 hg3; have HM3' := Lib.hid hm3; have HG3 := Lib.hid hg3; have HG2 := Lib.hid (HG1.out.grown hg3 hgm.out); obtain ⟨V', hV's, hV'⟩ := HOW.out.turn hg3 (.inr (Ne.symm Hne.out)); have HV's := Lib.hid (hV's.trans HVs.out); have HO6 := Lib.hid hV'; clear rg hmW hm3 hg3 hV' hV's; have rg := HG2.out.cell)
        go_roundw
        case rel =>
          refine ⟨k + 1, co, t, Ao, xs, by go_num, rfl, Lib.hid hlt, Lib.hid (by have := ht.out; omega), Hxs, Lib.hid ⟨V', HV's.out, HO6.out⟩, Lib.hid ⟨_, HM3'.out⟩, Lib.hid ?_, Lib.hid ?_⟩
          · exact HKW.out.grown HG3.out (fun j e cs fr => by cases e; exact HnoC.out cs fr)
          · exact HBW.out.grown HG3.out HBW.out.size (fun j e => by cases e; have := Hm7.out; omega)
        case measure => simp [intOf]; omega
    · obtain ⟨f, hf⟩ := Hf.out
      obtain ⟨V, hVs, hV⟩ := HV.out
      have ht5 : t ≤ 1000000 := by have := ht.out; have := Hl.out; have := hk.out; omega
      have HB4 := Lib.hid HBr.out
      have Hmf := Lib.hid hf
      have HOV := Lib.hid hV
      have HVs := Lib.hid hVs
      have Ht5 := Lib.hid ht5
      have C4 := Lib.hid (sortS_any V wr Ao t co xs hV (by omega))
      clear hf hVs hV ht5 Hf HV HK HBr
      go_wp2_with fail
      refine C4.out.mono ?_
      rintro e w4 ⟨rfl, hO4⟩
      have C5 := Lib.hid (compact_any V w4 Ao t co _ hO4 Ht5.out)
      clear hO4 C4
      go_wp2_with fail
      refine C5.out.mono ?_
      rintro e w5 ⟨t5, rfl, ht5, hS5, b5⟩
      obtain ⟨ys, hys⟩ : ∃ ys, ys = Lib.compact (sortS xs) := ⟨_, rfl⟩
      rw [← hys] at ht5 hS5
      have Hys : Hid (∀ y ∈ ys, y.length ≤ 2147483648) := Lib.hid (fun y hy => by
        rw [hys] at hy
        exact Hxs.out y ((sortS_perm xs).mem_iff.1 ((compact_memI y _ _ rfl).1 hy)))
      have HS5 := Lib.hid hS5
      have Ht5' : Hid (t5 ≤ 1000000) := Lib.hid (by
        have h1 : xs.length = t := strs_count HOV.out.sl
        have h2 := Lib.compact_length_le (sortS xs)
        rw [← hys, (sortS_perm xs).length_eq] at h2
        have := Ht5.out
        omega)
      have hmV : m7 < V.heap.size := by rw [HVs.out, HS1.out]; omega
      have HM5 : Hid (MapIs seenC w5 m7 k f) := Lib.hid (Hmf.out.block ((b5.block m7 hmV).trans (HOV.out.2.block m7 hmV).symm))
      have B5 : Hid (Below w.heap.size w w5) := Lib.hid (below_turn HB4.out HOV.out.2 b5 (by rw [HVs.out]; exact HB1.out))
      have HM := Lib.hid (HM.out.step B5.out)
      have HD := Lib.hid (HD.out.step B5.out)
      have HI := Lib.hid (HI.out.step B5.out)
      clear hS5 ht5 b5 C5 hmV hys Hmf HOV HVs HB4 Hxs ht
      have ht5 := Ht5'.out
      go_wp2
      go_loopw [11, 45] (fun o i W => ∃ (k co t : Nat) (Ao : Option Addr) (xs : List Fil), i = .int .i64 k ∧ o = .slice Ao t co ∧ Hid (k ≤ t5) ∧ Hid (t ≤ k) ∧ Hid (Ow w5 W 44 2 Ao t co (fls xs)) ∧ Hid (∀ y ∈ xs, sameB L li y.1 now = false)) (fun _ i _ => t5 - (intOf i).toNat)
      case atStart => exact ⟨0, 0, 0, none, [], rfl, rfl, Lib.hid (Nat.zero_le _), Lib.hid (Nat.zero_le _), Lib.hid (Ow.nil_ (Below.refl _ _)), Lib.hid (by simp)⟩
      case round =>
        obtain ⟨k2, co, t, Ao, xs, rfl, rfl, hk, ht, hO, hXs⟩ := hrel
        by_cases hlt : k2 < t5
        · obtain ⟨b, off, x, rfl, hx, x0⟩ := (HS5.out.below hO.out.2).str hlt
          have Hx := Lib.hid (Hys.out x (List.mem_of_getElem? hx))
          clear hx
          obtain ⟨SB, hSB⟩ : ∃ SB, SB = sameB L li x now := ⟨_, rfl⟩
          obtain ⟨v0, hv0⟩ : ∃ v0, v0 = (f x).getD 0 := ⟨_, rfl⟩
          have CS : Hid (∀ V, Below wr.heap.size wr V → Calls Tryz.prog 12 #[.pointer (some ⟨p, 0, none⟩), .pointer (some ⟨q, 0, none⟩), S x, I now] V fun e w' => e = .returned (.bool SB) ∧ Below V.heap.size V w') := Lib.hid (fun V hV => by
            rw [hSB]
            exact wsame_any V p m n cap L q mi ni li x now (HD.out.step (bstep hO.out.2 hV)) (HI.out.step (bstep hO.out.2 hV)) Hx.out (HM.out.step (bstep hO.out.2 hV)) Hsm.out)
          have HLk : Hid (∀ V, Below wr.heap.size wr V → (Instr.lookup 111 (.map (some m7)) (S x) false).run Tryz.prog V = .ok (I v0) V) := Lib.hid (fun V hV => by
            rw [hv0]
            exact (HM5.out.step (bstep hO.out.2 hV)).run_look Tryz.underlying111 (Tryz.zeroI V) (show x.length ≤ maxLen by have := Hx.out; simp only [maxLen]; omega))
          have CL := Lib.hid (fun V => lastSlash_any x V Hx.out)
          have CP := Lib.hid (fun (b : ByteArray) (V : World) => Tryz.strings_HasPrefix b ⟨#[46]⟩ V)
          have HSB := Lib.hid hSB
          clear hv0 hSB
          go_upto_region 15 with fail
          go_cut [45, 67] from 45 to 86 (fun kv bv W => kv = .int .i64 k2 ∧ ∃ bb : Bool, bv = .bool bb ∧ Hid (bb = false → SB = false) ∧ Hid (Below wr.heap.size wr W))
          case first =>
            have hways : SB = true ∨ (SB = false ∧ v0 = 0) ∨ (SB = false ∧ (v0 == 0) = false) := by
              cases SB
              · by_cases h : v0 = 0
                · exact .inr (.inl ⟨rfl, h⟩)
                · exact .inr (.inr ⟨rfl, beq_eq_false_iff_ne.2 h⟩)
              · exact .inl rfl
            rcases hways with rfl | ⟨rfl, rfl⟩ | ⟨rfl, hv⟩
            all_goals
              go_wp2_with (first
                | (go_at_call 12; refine (CS.out _ (Below.refl _ _)).mono ?_; rintro e w6 ⟨rfl, b6⟩; have HL6 := Lib.hid (HLk.out w6 b6); have B6 := Lib.hid b6; clear b6)
                | (at_lookup; refine wpList_lookR _ (by rfl) _ _ 111 rfl _ _ _ rfl rfl HL6.out ?_)
                | (go_at_call 47; refine (CL.out _).mono ?_; rintro e w7 ⟨i7, rfl, j1, j2, rfl⟩; obtain ⟨k7, rfl, j3⟩ : ∃ k7 : Nat, i7 = (k7 : Int) - 1 ∧ k7 ≤ x.length := ⟨(i7 + 1).toNat, by omega, by omega⟩; have j4 : k7 ≤ 2147483648 := Nat.le_trans j3 Hx.out; clear j1 j2)
                | (go_at_call 46; refine (CP.out _ _).mono ?_; rintro e w8 ⟨rfl, rfl⟩))
            all_goals
              go_meet
              case rel => exact ⟨rfl, _, rfl, Lib.hid (fun h => by first | trivial | rfl | exact Bool.noConfusion h), B6⟩
          case rest =>
            obtain ⟨rfl, bb, rfl, hbb, hB9⟩ := hcut
            clear CS HLk CL CP x0
            have HO9 := Lib.hid (hO.out.keep hB9.out)
            cases bb with
            | true =>
              go_wp2
              go_roundw
              case rel => exact ⟨k2 + 1, co, t, Ao, xs, by go_num, rfl, Lib.hid hlt, Lib.hid (by have := ht.out; omega), HO9, hXs⟩
              case measure => simp [intOf]; omega
            | false =>
              have Hno : Hid (sameB L li x now = false) := Lib.hid (HSB.out.symm.trans (hbb.out rfl))
              obtain ⟨g, hg⟩ : ∃ g, g = wc.heap.size := ⟨_, rfl⟩
              obtain ⟨W1, hW1⟩ : ∃ W1, W1 = wc.alloc (.cells #[S x, S []] 44) := ⟨_, rfl⟩
              have HG1 : Hid (Blk W1 g 44 #[S x, S []]) := Lib.hid (by rw [hW1, hg]; exact Blk.new wc _ _)
              have hO1 : Ow w5 W1 44 2 Ao t co (fls xs) := by rw [hW1]; exact HO9.out.alloc _
              have Hgo : Hid (some g ≠ (Value.slice Ao t co).ownBlock ∧ w5.heap.size ≤ g) := Lib.hid (by
                refine ⟨fun e => ?_, by rw [hg]; exact HO9.out.2.size⟩
                have := (HO9.out.1.lt g e.symm).2
                omega)
              have HO1 := Lib.hid hO1
              have q1 : Hid (t + 1 ≤ maxLen) := Lib.hid (by have := ht.out; simp only [maxLen]; omega)
              have q2 : Hid ((t + 1) * 32 ≤ 140737488355328) := Lib.hid (by have := ht.out; omega)
              have CG := Lib.hid (wget_any W1 p m n cap L x (HD.out.step hO1.2) Hx.out (HM.out.step hO1.2))
              obtain ⟨E9, hE9⟩ : ∃ E9, E9 = getE L x := ⟨_, rfl⟩
              rw [← hE9] at CG
              clear hE9 hO1 hbb HSB hB9
              go_wp2_with fail
              simp only [← hg]
              rw [← hW1]
              clear hg hW1
              refine CG.out.mono ?_
              rintro e w8 ⟨A8, k8, c8, rfl, hO8⟩
              have HG8 := Lib.hid (HG1.out.step hO8.2)
              have HO8 := Lib.hid (HO1.out.keep hO8.2)
              have r8 := HG8.out.cell
              have hways : (E9 == 0) = false ∨ E9 = 0 := by
                by_cases h : E9 = 0
                · exact .inr h
                · exact .inl (beq_eq_false_iff_ne.2 h)
              rcases hways with d1 | rfl
              · clear hO8 CG HO1 HG1
                have HS10 := Lib.hid (sl_fil w8 44 (x, []))
                have HO10 := Lib.hid (HO8.out.alloc (.cells #[S x, S []] 44))
                go_wp2_with (at_builtin; refine wpList_append_sl _ rfl (.tmp 82) (.tmp 84) _ rfl w5 44 i0 _ 2 32 Tryz.underlying41 hi0 hz0 hz1 hz2 rfl (by decide) Ao t co _ rfl HO10.out _ 1 1 (fls [(x, [])]) rfl HS10.out (one_fls _) q1.out q2.out ?_; intro A5 c5 w9 hO9 hg9 hat9; have HOe := Lib.hid hO9; clear hO9 hg9 hat9)
                go_roundw
                case rel => exact ⟨k2 + 1, c5, t + 1, A5, xs ++ [(x, [])], by go_num, rfl, Lib.hid hlt, Lib.hid (by have := ht.out; omega), Lib.hid (by rw [fls_append]; exact HOe.out), Lib.hid (fun y hy => by
                  rcases List.mem_append.1 hy with hy | hy
                  · exact hXs.out y hy
                  · simp at hy; rw [hy]; exact Hno.out)⟩
                case measure => simp [intOf]; omega
              · have hgl : (getB L x).length ≤ 1000000000 := getB_len Hsm.out x
                have CI := Lib.hid (wid_any A8 k8 c8 (getB L x) w8 hO8.sl (by have := hO8.len; simp [u8s] at this; omega))
                obtain ⟨own, hown⟩ : ∃ own, own = widL (getB L x) := ⟨_, rfl⟩
                rw [← hown] at CI
                clear hown hgl hO8 CG HO1 HG1
                go_wp2_with fail
                refine CI.out.mono ?_
                rintro e wx ⟨rfl, bx⟩
                have HGx := Lib.hid (HG8.out.step bx)
                have HOx := Lib.hid ((HO8.out.keep bx).far (p := ⟨g, 1, none⟩) Hgo.out.1 Hgo.out.2 (S own))
                have HGy := Lib.hid (HGx.out.set_ 1 (S own))
                clear r8 bx CI HO8 HG8
                have rx := HGx.out.cell
                have ry : ∀ i : Nat, (wx.setCell ⟨g, 1, none⟩ (S own)).cell? ⟨g, i, none⟩ = (#[S x, S own] : Array Value)[i]? := HGy.out.cell
                have fz := HGx.out.frozen 1
                have HS10 := Lib.hid (show Sl ((wx.setCell ⟨g, 1, none⟩ (S own)).alloc (.cells #[S x, S own] 44)) 2 (some ⟨wx.heap.size, 0, none⟩) 1 (fls [(x, own)]) by have := sl_fil (wx.setCell ⟨g, 1, none⟩ (S own)) 44 (x, own); simpa [World.setCell] using this)
                have HO10 := Lib.hid (HOx.out.alloc (.cells #[S x, S own] 44))
                go_wp2_with (at_builtin; refine wpList_append_sl _ rfl (.tmp 82) (.tmp 84) _ rfl w5 44 i0 _ 2 32 Tryz.underlying41 hi0 hz0 hz1 hz2 rfl (by decide) Ao t co _ rfl HO10.out _ 1 1 (fls [(x, own)]) rfl HS10.out (one_fls _) q1.out q2.out ?_; intro A5 c5 w9 hO9 hg9 hat9; have HOe := Lib.hid hO9; clear hO9 hg9 hat9)
                go_roundw
                case rel => exact ⟨k2 + 1, c5, t + 1, A5, xs ++ [(x, own)], by go_num, rfl, Lib.hid hlt, Lib.hid (by have := ht.out; omega), Lib.hid (by rw [fls_append]; exact HOe.out), Lib.hid (fun y hy => by
                  rcases List.mem_append.1 hy with hy | hy
                  · exact hXs.out y hy
                  · simp at hy; rw [hy]; exact Hno.out)⟩
                case measure => simp [intOf]; omega
        · go_wp2
          go_ret
          have hkk := hk.out
          have htt := ht.out
          exact ⟨Ao, t, co, xs, rfl, by omega, hO.out.sl, hXs.out, bstep B5.out hO.out.2⟩
end Go.Proofs.YtphnfcgdpdimbaaGreatDoor

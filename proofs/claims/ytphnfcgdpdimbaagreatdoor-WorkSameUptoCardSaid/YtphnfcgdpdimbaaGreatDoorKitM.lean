/-
  Base texts, merged by a program (mkkit.py): words for slices, blocks, maps, regions that draw their order, the plain law of paths and of an index. Conditions: each lemma's own.
-/
import Derived.Test.YtphnfcgdpdimbaaGreatDoorKitX
import Derived.Test.YtphnfcgdpdimbaaGreatDoorKitI
import Derived.Test.YtphnfcgdpdimbaaGreatDoorKitJ
import Derived.Test.YtphnfcgdpdimbaaGreatDoorWorkClobber
import Derived.Test.YtphnfcgdpdimbaaGreatDoorSumWalk
import Derived.Test.YtphnfcgdpdimbaaGreatDoorDiskNew
import Derived.IntWalk
import Derived.BigQuiet
import Derived.Test.YtphnfcgdpdimbaaGreatDoorSumTake
import Derived.Test.YtphnfcgdpdimbaaGreatDoorWorldV
import Derived.Test.YtphnfcgdpdimbaaGreatDoorSumEnd
import Derived.Test.YtphnfcgdpdimbaaGreatDoorSaveLaw
import Derived.Test.YtphnfcgdpdimbaaGreatDoorObjBlob
/-
  A law for a region that draws its order and has some operations that write, each behind the one before it, where these may have guards that are met. Plain lemmas.
-/
namespace Go.Proofs.YtphnfcgdpdimbaaGreatDoor
open Go.RowKit

/-- the closed checks: each of C's operations waits for the one before it -/
def chainOkG (ops : Array Oper) (n : Nat) (C : List Nat) : Bool :=
  C.all (fun i => decide (i < n)) && decide C.Nodup &&
  (List.range C.length).all (fun s => match C[s]?, C[s + 1]? with | some i, some j => reachIn ops (n + 1) j i | _, _ => true)
theorem wp_region_chainG {P : Program} {ops : Array Oper} {Q : Exit → Act → World → Prop} {id : Nat} {a0 : Act} {w0 : World} (hm : P.follows .mixedOrders = true) (n : Nat) (hok : regionOk2 ops n = true)
    (hsz : ∀ (i : Nat) (o : Oper) (d : Nat), ops[i]? = some o → o.dst = some d → d < a0.tmps.size)
    (C : List Nat) (hC : chainOkG ops n C = true) (Rel : World → World → Prop) (hRel : ∀ w w', Below w.heap.size w w' → Rel w w')
    (φ : Nat → Value → World → Prop) (hmono : ∀ j v w w', φ j v w → Rel w w' → φ j v w')
    (J : Nat → Value → World → Prop) (hJ : ∀ k u w w', J k u w → Below w.heap.size w w' → J k u w') (h0 : ∃ u, J 0 u w0.drew)
    (hstep : ∀ (i : Nat) (o : Oper), i < n → i ∉ C → ops[i]? = some o → ∀ a w k u, J k u w → SameAct (ops.extract 0 n) a0 a → Met ops φ o a w →
      if Region.wanted o (yielded ops a.tmps) = true then Oper.wp P o a w (fun a' w' => ∃ v, a' = a.put o.dst v ∧ φ i v w' ∧ Below w.heap.size w w') Q else φ i undef w)
    (hchain : ∀ (s i : Nat) (o : Oper), C[s]? = some i → ops[i]? = some o → ∀ a w u, J s u w → SameAct (ops.extract 0 n) a0 a → Met ops φ o a w → Region.wanted o (yielded ops a.tmps) = true ∧ Oper.wp P o a w (fun a' w' => ∃ v, a' = a.put o.dst v ∧ φ i v w' ∧ J (s + 1) v w' ∧ Rel w w') Q)
    (hlast : ∀ (o : Oper), ops[n]? = some o → ∀ a w u, J C.length u w → (∀ (t i d : Nat) (o : Oper), C.length = t + 1 → C[t]? = some i → ops[i]? = some o → o.dst = some d → a.eval (.tmp d) = u) → SameAct (ops.extract 0 n) a0 a → Met ops φ o a w → Oper.wp P o a w (fun a' w' => Q .normal a' w') Q) :
    (Code.region id ops true).wp P Q a0 w0 := by
  have hok' := hok
  simp only [regionOk2, Bool.and_eq_true, beq_iff_eq, List.all_eq_true, List.mem_range] at hok'
  obtain ⟨⟨hn, hop⟩, hcov⟩ := hok'
  have hback : ∀ (i : Nat) (o : Oper), ops[i]? = some o → (i = n → o.guard = none) ∧ (∀ e ∈ o.after, e.on < i) ∧ ∀ (j : Nat) (p : Oper) (x : Nat), j < i → ops[j]? = some p → p.dst = some x → o.dst ≠ some x := by
    intro i o ho
    have hlt := (Array.getElem?_eq_some_iff.1 ho).1
    have h1 := hop i (by omega)
    rw [ho] at h1
    simp only [Bool.and_eq_true, List.all_eq_true, List.mem_range] at h1
    obtain ⟨⟨h2, h3⟩, h4⟩ := h1
    refine ⟨fun hi => by
      cases hg : o.guard with
      | none => rfl
      | some q => rw [hg] at h2; simp at h2; omega, fun e he => by simpa using Array.all_eq_true_iff_forall_mem.1 h3 e he, fun j p x hj hp hx hd => ?_⟩
    have h5 := h4 j hj
    rw [hp] at h5
    simp only [hx, hd] at h5
    simp at h5
  have hdst : ∀ (i j : Nat) (o p : Oper) (x : Nat), i ≠ j → ops[i]? = some o → ops[j]? = some p → o.dst = some x → p.dst ≠ some x := by
    intro i j o p x hne ho hp hx hpx
    rcases Nat.lt_or_gt_of_ne hne with h | h
    · exact (hback j p hp).2.2 i o x h ho hx hpx
    · exact (hback i o ho).2.2 j p x h hp hpx hx
  simp only [chainOkG, Bool.and_eq_true, List.all_eq_true, decide_eq_true_eq, List.mem_range] at hC
  obtain ⟨⟨hC1, hnd⟩, hC2⟩ := hC
  have hCn : ∀ (t i : Nat), C[t]? = some i → i < n := fun t i h => hC1 i (List.mem_of_getElem? h)
  have hinj : ∀ (s t i : Nat), C[s]? = some i → C[t]? = some i → s = t := fun s t i h1 h2 => by
    obtain ⟨a1, b1⟩ := List.getElem?_eq_some_iff.1 h1
    obtain ⟨a2, b2⟩ := List.getElem?_eq_some_iff.1 h2
    have h3 := List.pairwise_iff_getElem.1 hnd
    rcases Nat.lt_trichotomy s t with h | h | h
    · exact absurd (b1.trans b2.symm) (h3 s t a1 a2 h)
    · exact h
    · exact absurd (b2.trans b1.symm) (h3 t s a2 a1 h)
  have hex : ∀ (i : Nat) (o : Oper), i < n → ops[i]? = some o → (ops.extract 0 n)[i]? = some o := fun i o hi ho => by
    have hlt := (Array.getElem?_eq_some_iff.1 ho).1
    rw [Array.getElem?_extract, if_pos (by omega), Nat.zero_add, ho]
  refine wp_region_any hm ?_
  refine wpAny_inv (fun listed a w => (∀ (i : Nat) (o : Oper), ops[i]? = some o → listed[i]? = some true → ∀ e ∈ o.after, Region.binds .any e = true → listed[e.on]? = some true) ∧
      (listed[n]? = some false → SameAct (ops.extract 0 n) a0 a ∧ ChainSt J C ops listed a w ∧ ∀ (j : Nat) (p : Oper) (d : Nat), j < n → ops[j]? = some p → p.dst = some d → listed[j]? = some true → φ j (a.eval (.tmp d)) w) ∧
      (listed[n]? = some true → (∀ j, j < n → listed[j]? = some true) ∧ Q .normal a w)) ?_ ?_ ops.size (Array.replicate ops.size false) a0 _ (by simp) ?_ ?_
  · rintro listed a w i hs ⟨hcl, hun, hfin⟩ hi
    obtain ⟨o, ho, hl, haft⟩ := ready_parts hs hi
    have hlt := (Array.getElem?_eq_some_iff.1 ho).1
    have hnl : listed[n]? = some false := by
      cases hb : listed[n]? with
      | none => rw [Array.getElem?_eq_none_iff] at hb; omega
      | some b => cases b with
        | false => rfl
        | true =>
          obtain ⟨h1, _⟩ := hfin hb
          rcases Nat.lt_or_ge i n with h | h
          · rw [h1 i h] at hl; cases hl
          · obtain rfl : i = n := by omega
            rw [hb] at hl; cases hl
    obtain ⟨hsame, ⟨s, u, hsl, hJs, hst, hu⟩, hphi⟩ := hun hnl
    have hmet : Met ops φ o a w := by
      intro e he hb p d hp hd
      have hon := (hback i o ho).2.1 e he
      exact hphi e.on p d (by omega) hp hd (haft e he hb)
    have hset : ∀ k, (listed.setIfInBounds i true)[k]? = if i = k then some true else listed[k]? := by
      intro k
      rw [Array.getElem?_setIfInBounds]
      split
      · rename_i h; subst h; rw [if_pos (by omega)]
      · rfl
    refine wpOp_step ho (fun K' hK' => ?_)
    have hcl' : ∀ (k : Nat) (p : Oper), ops[k]? = some p → (listed.setIfInBounds i true)[k]? = some true → ∀ e ∈ p.after, Region.binds .any e = true → (listed.setIfInBounds i true)[e.on]? = some true := by
      intro k p hp hk e he hb
      rw [hset] at hk ⊢
      split
      · rfl
      · by_cases hik : i = k
        · subst hik
          obtain rfl : p = o := Option.some.inj (hp.symm.trans ho)
          exact haft e he hb
        · rw [if_neg hik] at hk
          exact hcl k p hp hk e he hb
    rcases Nat.lt_or_ge i n with hin | hin
    · have hput : ∀ (v : Value) (d : Nat), o.dst = some d → (a.put o.dst v).eval (.tmp d) = v := by
        intro v d hd
        have hdlt := hsz i o d ho hd
        rw [hd]
        simp [Act.put, Act.eval, Array.getD_eq_getD_getElem?, hsame.size, hdlt]
      have hoth : ∀ (v : Value) (j d : Nat) (p : Oper), i ≠ j → ops[j]? = some p → p.dst = some d → (a.put o.dst v).eval (.tmp d) = a.eval (.tmp d) := by
        intro v j d p hij hp hd
        have hne : o.dst ≠ some d := hdst j i p o d (fun e => hij e.symm) hp ho hd
        cases hod : o.dst with
        | none => rfl
        | some x =>
          have hxd : x ≠ d := fun e => hne (by rw [hod, e])
          simp [Act.put, Act.eval, Array.getD_eq_getD_getElem?, hxd]
      have key : ∀ (v : Value) (w' : World), φ i v w' → ChainSt J C ops (listed.setIfInBounds i true) (a.put o.dst v) w' → Rel w w' → K' (a.put o.dst v) w' := by
        intro v w' hv hst' hr'
        refine hK' _ _ ?_
        refine ⟨hcl', fun _ => ⟨hsame.put (hex i o hin ho) v, hst', fun j p d hj hp hd hlj => ?_⟩, fun hf => ?_⟩
        · rw [hset] at hlj
          by_cases hij : i = j
          · subst hij
            obtain rfl : p = o := Option.some.inj (hp.symm.trans ho)
            rw [hput v d hd]
            exact hv
          · rw [if_neg hij] at hlj
            rw [hoth v j d p hij hp hd]
            exact hmono _ _ _ _ (hphi j p d hj hp hd hlj) hr'
        · rw [hset, if_neg (by omega), hnl] at hf
          cases hf
      by_cases hiC : i ∈ C
      · obtain ⟨t, ht⟩ := List.mem_iff_getElem?.1 hiC
        have hts : t = s := by
          have h1 := hst t i ht
          rw [hl] at h1
          have h2 : ¬ t < s := by simpa using h1
          rcases Nat.lt_or_ge s t with h3 | h3
          · obtain ⟨r, hr⟩ : ∃ r, t = r + 1 := ⟨t - 1, by omega⟩
            have h4 : r < C.length := by have := (List.getElem?_eq_some_iff.1 ht).1; omega
            have h5 := hC2 r h4
            have h6 : C[r]? = some C[r] := List.getElem?_eq_getElem h4
            rw [← hr, h6, ht] at h5
            simp only at h5
            have h7 := reachIn_listed hcl _ _ _ o ho haft h5
            rw [hst r _ h6] at h7
            have h8 : r < s := by simpa using h7
            omega
          · omega
        subst hts
        have hch := hchain t i o ht ho a w u hJs hsame hmet
        rw [if_pos hch.1]
        refine Oper.wp_mono (fun a' w' h' => ?_) hch.2
        obtain ⟨v, rfl, hv, hj, hr'⟩ := h'
        refine key v w' hv ⟨t + 1, v, (List.getElem?_eq_some_iff.1 ht).1, hj, fun x k hx => ?_, fun x k d p hx hk hp hd => ?_⟩ hr'
        · rw [hset]
          by_cases hik : i = k
          · subst hik
            rw [if_pos rfl, hinj x t i hx ht]
            simp
          · rw [if_neg hik, hst x k hx]
            have hne : x ≠ t := fun e => hik (by subst e; exact Option.some.inj (ht.symm.trans hx))
            congr 1
            rw [decide_eq_decide]
            omega
        · obtain rfl : t = x := by omega
          obtain rfl : i = k := Option.some.inj (ht.symm.trans hk)
          obtain rfl : o = p := Option.some.inj (ho.symm.trans hp)
          exact hput v d hd
      · have hkeep : ∀ v w', Below w.heap.size w w' → ChainSt J C ops (listed.setIfInBounds i true) (a.put o.dst v) w' := by
          intro v w' hb
          refine ⟨s, u, hsl, hJ _ _ _ _ hJs hb, fun x k hx => ?_, fun x k d p hx hk hp hd => ?_⟩
          · rw [hset, if_neg (fun e => hiC (by subst e; exact List.mem_of_getElem? hx))]
            exact hst x k hx
          · rw [hoth v k d p (fun e => hiC (by subst e; exact List.mem_of_getElem? hk)) hp hd]
            exact hu x k d p hx hk hp hd
        have hst2 := hstep i o hin hiC ho a w s u hJs hsame hmet
        split
        · rename_i hw
          rw [if_pos hw] at hst2
          refine Oper.wp_mono (fun a' w' h' => ?_) hst2
          obtain ⟨v, rfl, hv, hb'⟩ := h'
          exact key v w' hv (hkeep v w' hb') (hRel _ _ hb')
        · rename_i hw
          rw [if_neg hw] at hst2
          exact key undef w hst2 (hkeep undef w (Below.refl _ _)) (hRel _ _ (Below.refl _ _))
    · obtain rfl : i = n := by omega
      rw [if_pos (by simp [Region.wanted, (hback i o ho).1 rfl])]
      have hall : ∀ (d j : Nat), j < i → i - j ≤ d → listed[j]? = some true := by
        intro d
        induction d with
        | zero => intro j hj hd; omega
        | succ d ih =>
          intro j hj hd
          have h1 := hcov j hj
          rw [List.any_eq_true] at h1
          obtain ⟨k, hk, h1⟩ := h1
          rw [List.mem_range] at hk
          simp only [Bool.and_eq_true, decide_eq_true_eq] at h1
          obtain ⟨hjk, h1⟩ := h1
          split at h1
          · rename_i q hq
            rw [← Array.any_toList, List.any_eq_true] at h1
            obtain ⟨e, he, h1⟩ := h1
            simp only [Bool.and_eq_true, beq_iff_eq] at h1
            obtain ⟨hb, rfl⟩ := h1
            replace he := Array.mem_toList_iff.1 he
            by_cases hki : k = i
            · subst hki
              obtain rfl : q = o := Option.some.inj (hq.symm.trans ho)
              exact haft e he hb
            · exact hcl k q hq (ih k (by omega) (by omega)) e he hb
          · cases h1
      have hsn : s = C.length := by
        rcases Nat.lt_or_ge s C.length with h1 | h1
        · have h2 : C[s]? = some C[s] := List.getElem?_eq_getElem h1
          have h3 := hst s _ h2
          rw [hall i _ (hCn s _ h2) (by omega)] at h3
          simp at h3
        · omega
      refine Oper.wp_mono (fun a' w' h' => hK' a' w' ?_) (hlast o ho a w u (hsn ▸ hJs) (fun t k d p ht hk hp hd => hu t k d p (hsn.trans ht) hk hp hd) hsame hmet)
      refine ⟨hcl', fun hf => ?_, fun _ => ⟨fun j hj => ?_, h'⟩⟩
      · rw [hset, if_pos rfl] at hf
        cases hf
      · rw [hset, if_neg (by omega)]
        exact hall i j hj (by omega)
  · rintro listed a w hs ⟨hcl, hun, hfin⟩ hr
    have hall : ∀ i, i ≤ n → listed[i]? = some true := by
      intro i
      induction i using Nat.strongRecOn with
      | _ i ih =>
        intro hi
        have hlt : i < listed.size := by omega
        have hlo : i < ops.size := by omega
        cases hb : listed[i] with
        | true => rw [Array.getElem?_eq_getElem hlt, hb]
        | false =>
          have hmem := ready_mem (md := .any) (Array.getElem?_eq_getElem hlo) (by rw [Array.getElem?_eq_getElem hlt, hb] : listed[i]? = some false) (fun e he _ => ih e.on ((hback i _ (Array.getElem?_eq_getElem hlo)).2.1 e he) (by have := (hback i _ (Array.getElem?_eq_getElem hlo)).2.1 e he; omega))
          rw [hr] at hmem
          cases hmem
    exact (hfin (hall n (Nat.le_refl _))).2
  · have hu : ∀ m, undone (List.replicate m false) = m := by
      intro m
      induction m with
      | zero => rfl
      | succ m ih => rw [List.replicate_succ, undone, ih]; simp; omega
    simp [hu]
  · refine ⟨fun i o ho hl => ?_, fun _ => ⟨⟨rfl, rfl, fun _ _ => rfl⟩, ⟨0, h0.choose, Nat.zero_le _, h0.choose_spec, fun t i ht => ?_, fun t i d o ht => absurd ht (by omega)⟩, fun j p d hj hp hd hl => ?_⟩, fun hl => ?_⟩
    · rw [Array.getElem?_replicate] at hl; split at hl <;> cases hl
    · rw [Array.getElem?_replicate, if_pos (by have := hCn t i ht; omega)]; simp
    · rw [Array.getElem?_replicate] at hl; split at hl <;> cases hl
    · rw [Array.getElem?_replicate] at hl; split at hl <;> cases hl
end Go.Proofs.YtphnfcgdpdimbaaGreatDoor

/-
  What 'made' of dolmenlaw20 holds in memory between its rounds. Plain lemmas.
-/
namespace Go.Proofs.YtphnfcgdpdimbaaGreatDoor
open Go.RowKit
open IdxLaw (Ent)

def mdE (p mp r q mi zz : Nat) (k : Nat) : Prop := (((k = p ∨ k = mp) ∨ k = r) ∨ (k = q ∨ k = mi)) ∨ k = zz
structure MdS (W : World) (p mp r q mi zz nn : Nat) (cap : Int) (i : Nat) (L l : List DF) (li lz : List Ent) : Prop where
  disk : DiskAt W p mp nn cap L
  ref : RdAt W r cap l
  tied : Tied l L
  cost : (costs L : Int) ≤ cap
  idx : ∃ ni, ni ≤ i ∧ IdxAt W q mi li ni
  inv : IdxLaw.Inv li
  rix : RIx (mdE p mp r q mi zz) W zz lz
  zlen : lz.length ≤ i
  zpath : ∀ e ∈ lz, e.path.length ≤ 1048576
  ne : mp ≠ mi
theorem RdAt.fr_of {E : Nat → Prop} {w w' : World} {r : Nat} {cap : Int} {l : List DF} (h : RdAt w r cap l) (hf : Fr E w w') (hr : ¬ E r) (hE : ∀ (k : Nat) (cs : Array Value) (fr : Nat × Nat), E k → w.heap[k]? ≠ some (.cells cs 5 fr) ∧ w.heap[k]? ≠ some (.cells cs 87 fr)) : RdAt w' r cap l := by
  obtain ⟨A, n, c, done, hB, hc, hS, hR⟩ := h
  have k1 : KeepT 5 w w' := KeepT.of_fr hf (fun k cs fr e => (hE k cs fr e).1)
  have k2 : KeepT 87 w w' := KeepT.of_fr hf (fun k cs fr e => (hE k cs fr e).2)
  exact ⟨A, n, c, done, hf.blk hB hr, hc, hS.keep k2, fun x hx => (hR x hx).keep k1⟩
section
variable {W W1 W2 : World} {p mp r q mi zz nn i : Nat} {cap : Int} {L l : List DF} {li lz : List Ent}
theorem MdS.nes (h : MdS W p mp r q mi zz nn cap i L l li lz) : (p ≠ r ∧ mp ≠ r ∧ mp ≠ p) ∧ (q ≠ p ∧ q ≠ mp ∧ q ≠ r) ∧ (mi ≠ p ∧ mi ≠ mp ∧ mi ≠ r ∧ mi ≠ q) ∧ (zz ≠ p ∧ zz ≠ mp ∧ zz ≠ r ∧ zz ≠ q ∧ zz ≠ mi) := by
  obtain ⟨ops, hp⟩ := h.disk.blk
  obtain ⟨A, n, c, done, hr, _⟩ := h.ref
  obtain ⟨ni, _, hI⟩ := h.idx
  obtain ⟨_, _, A9, c9, hz, _⟩ := h.rix
  have hq := hI.blk
  exact ⟨⟨blk_ne hp hr (by decide), h.disk.map.ne_blk hr, h.disk.map.ne_blk hp⟩, ⟨blk_ne hq hp (by decide), fun e => h.disk.map.ne_blk hq e.symm, blk_ne hq hr (by decide)⟩, ⟨hI.map.ne_blk hp, fun e => h.ne e.symm, hI.map.ne_blk hr, hI.map.ne_blk hq⟩,
    ⟨blk_ne hz hp (by decide), fun e => h.disk.map.ne_blk hz e.symm, blk_ne hz hr (by decide), blk_ne hz hq (by decide), fun e => hI.map.ne_blk hz e.symm⟩⟩
theorem MdS.blkp (h : MdS W p mp r q mi zz nn cap i L l li lz) (k : Nat) (cs : Array Value) (fr : Nat × Nat) (hk : k = p ∨ k = mp) : W.heap[k]? ≠ some (.cells cs 5 fr) ∧ W.heap[k]? ≠ some (.cells cs 87 fr) := by
  obtain ⟨ops, hp⟩ := h.disk.blk
  rcases hk with rfl | rfl
  · exact ⟨Blk.type hp (by decide) cs fr, Blk.type hp (by decide) cs fr⟩
  · exact ⟨h.disk.map.no_cells cs fr, h.disk.map.no_cells cs fr⟩
theorem MdS.step (h : MdS W p mp r q mi zz nn cap i L l li lz) (hb : Below W.heap.size W W1) : MdS W1 p mp r q mi zz nn cap i L l li lz := by
  obtain ⟨ni, h1, h2⟩ := h.idx
  exact ⟨h.disk.step hb, h.ref.step hb, h.tied, h.cost, ⟨ni, h1, h2.step hb⟩, h.inv, h.rix.step hb, h.zlen, h.zpath, h.ne⟩
theorem MdS.more (h : MdS W p mp r q mi zz nn cap i L l li lz) : MdS W p mp r q mi zz nn cap (i + 1) L l li lz := by
  obtain ⟨ni, h1, h2⟩ := h.idx
  exact ⟨h.disk, h.ref, h.tied, h.cost, ⟨ni, by omega, h2⟩, h.inv, h.rix, Nat.le_succ_of_le h.zlen, h.zpath, h.ne⟩
/-- the document's disk is as it was behind the program's Put -/
theorem MdS.put1 (h : MdS W p mp r q mi zz nn cap i L l li lz) (hf : Fr (fun k => k = p ∨ k = mp) W W1) : RdAt W1 r cap l := by
  obtain ⟨⟨n1, n2, n3⟩, _⟩ := h.nes
  exact h.ref.fr_of hf (fun e => by rcases e with e | e; exact n1 e.symm; exact n2 e.symm) (fun k cs fr e => h.blkp k cs fr e)
/-- the program's disk is as it was behind the document's Put -/
theorem disk_ref {nn' : Nat} {L' l' : List DF} (h : DiskAt W1 p mp nn' cap L') (hr : RdAt W1 r cap l') (hf : Fr (fun k => k = r) W1 W2) : DiskAt W2 p mp nn' cap L' := by
  obtain ⟨ops, hp⟩ := h.blk
  obtain ⟨A, n, c, done, hB, _⟩ := id hr
  exact h.keep (hf.block p h.lt (blk_ne hp hB (by decide))) (hf.block mp h.map.lt (h.map.ne_blk hB)) (hr.kept hf)
theorem MdS.put2 {nn' : Nat} {L' l' : List DF} (h : MdS W p mp r q mi zz nn cap i L l li lz) (hf : Fr (fun k => (k = p ∨ k = mp) ∨ k = r) W W2) (hD : DiskAt W2 p mp nn' cap L') (hR : RdAt W2 r cap l') (ht : Tied l' L') (hc : (costs L' : Int) ≤ cap) : MdS W2 p mp r q mi zz nn' cap i L' l' li lz := by
  obtain ⟨_, ⟨a1, a2, a3⟩, ⟨b1, b2, b3, _⟩, ⟨c1, c2, c3, _⟩⟩ := h.nes
  obtain ⟨ni, h1, h2⟩ := h.idx
  refine ⟨hD, hR, ht, hc, ⟨ni, h1, h2.fr hf (fun e => ?_) (fun e => ?_)⟩, h.inv, h.rix.fr hf (fun k e => .inl (.inl e)) (fun e => ?_), h.zlen, h.zpath, h.ne⟩
  · rcases e with (e | e) | e
    · exact a1 e
    · exact a2 e
    · exact a3 e
  · rcases e with (e | e) | e
    · exact b1 e
    · exact b2 e
    · exact b3 e
  · rcases e with (e | e) | e
    · exact c1 e
    · exact c2 e
    · exact c3 e
theorem MdS.setY {ni : Nat} {li' : List Ent} (h : MdS W p mp r q mi zz nn cap i L l li lz) (hf : Fr (fun k => k = mi) W W1) (hn : ni ≤ i) (hI : IdxAt W1 q mi li' ni) (hv : IdxLaw.Inv li') : MdS W1 p mp r q mi zz nn cap i L l li' lz := by
  obtain ⟨_, _, ⟨b1, b2, b3, _⟩, ⟨_, _, _, _, c5⟩⟩ := h.nes
  obtain ⟨nj, _, hJ⟩ := h.idx
  have kt : ∀ t : TypeId, KeepT t W W1 := fun t => KeepT.of_fr hf (fun k cs fr e => by subst e; exact hJ.map.no_cells cs fr)
  exact ⟨h.disk.keep (hf.block p h.disk.lt (fun e => b1 e.symm)) (hf.block mp h.disk.map.lt (fun e => b2 e.symm)) (kt _), h.ref.fr_of hf (fun e => b3 e.symm) (fun k cs fr e => by subst e; exact ⟨hJ.map.no_cells cs fr, hJ.map.no_cells cs fr⟩), h.tied, h.cost, ⟨ni, hn, hI⟩, hv,
    h.rix.fr hf (fun k e => .inl (.inr (.inr e))) c5, h.zlen, h.zpath, h.ne⟩
theorem MdS.setZ {lz' : List Ent} (h : MdS W p mp r q mi zz nn cap i L l li lz) (hf : Fr (fun k => k = zz) W W1) (hR : RIx (mdE p mp r q mi zz) W1 zz lz') (hl : lz'.length ≤ i) (hp : ∀ e ∈ lz', e.path.length ≤ 1048576) : MdS W1 p mp r q mi zz nn cap i L l li lz' := by
  obtain ⟨_, _, _, ⟨c1, c2, c3, c4, c5⟩⟩ := h.nes
  obtain ⟨nj, h1, hJ⟩ := h.idx
  obtain ⟨_, _, A9, c9, hz, _⟩ := h.rix
  have kt : KeepT 5 W W1 := KeepT.of_fr hf (fun k cs fr e => by subst e; exact Blk.type hz (by decide) cs fr)
  exact ⟨h.disk.keep (hf.block p h.disk.lt (fun e => c1 e.symm)) (hf.block mp h.disk.map.lt (fun e => c2 e.symm)) kt, h.ref.fr_of hf (fun e => c3 e.symm) (fun k cs fr e => by subst e; exact ⟨Blk.type hz (by decide) cs fr, Blk.type hz (by decide) cs fr⟩), h.tied, h.cost, ⟨nj, h1, hJ.fr hf (fun e => c4 e.symm) (fun e => c5 e.symm)⟩, h.inv, hR, hl, hp, h.ne⟩
theorem rset_len (lz : List Ent) (x : Ent) : (rset lz x).2.length ≤ lz.length + 1 := by
  unfold rset
  split
  · rw [insE_len]
    exact Nat.succ_le_succ (List.length_filter_le _ _)
  · exact Nat.le_succ _
theorem rset_path {lz : List Ent} {x : Ent} (h : ∀ e ∈ lz, e.path.length ≤ 1048576) (hx : x.path.length ≤ 1048576) : ∀ e ∈ (rset lz x).2, e.path.length ≤ 1048576 := by
  unfold rset
  split
  · intro e he
    rcases insE_mem.1 he with rfl | he
    · exact hx
    · exact h e (List.mem_filter.1 he).1
  · exact h
theorem perm_putL {cap : Int} {s bs : List UInt8} {st : Int} {hd hd2 : Hd} (h : (l.map nb).Perm (L.map nb)) : ((putL cap l s bs st hd2).map nb).Perm ((putL cap L s bs st hd).map nb) := by
  have hd1 : ((dropF l (shName (wname s))).map nb).Perm ((dropF L (shName (wname s))).map nb) := by rw [nb_drop, nb_drop]; exact h.filter _
  have hf : putFull cap l s bs st = putFull cap L s bs st := by unfold putFull; rw [costs_perm hd1]
  unfold putL
  rw [hf]
  split
  · exact h
  · split
    · exact hd1
    · have h2 : ((dropF (dropF l (shName (wname s))) (wname s)).map nb).Perm ((dropF (dropF L (shName (wname s))) (wname s)).map nb) := by
        rw [nb_drop (dropF l _), nb_drop (dropF L _)]
        exact hd1.filter _
      exact h2.cons _
theorem Tied.putL {cap : Int} {s bs : List UInt8} {st : Int} {hd hd2 : Hd} {l' : List DF} (h : Tied l L) (h2 : Tied l' (putL cap l s bs st hd2)) : Tied l' (Go.Proofs.YtphnfcgdpdimbaaGreatDoor.putL cap L s bs st hd) := ⟨h2.1, h2.2.trans (perm_putL h.2)⟩
/-- how far the two Puts have come -/
def mdJ (W0 : World) (p mp r nn : Nat) (cap : Int) (L l : List DF) (s bs : List UInt8) (st : Int) : Nat → Value → World → Prop
  | 0, _, w => Below W0.heap.size W0 w
  | 1, _, w => Fr (fun k => k = p ∨ k = mp) W0 w ∧ ∃ hd n', n' ≤ nn + 100000 ∧ DiskAt w p mp n' cap (putL cap L s bs st hd)
  | _ + 2, _, w => Fr (fun k => (k = p ∨ k = mp) ∨ k = r) W0 w ∧ ∃ hd n' l', n' ≤ nn + 100000 ∧ DiskAt w p mp n' cap (putL cap L s bs st hd) ∧ RdAt w r cap l' ∧ ∀ hd2, Tied l' (putL cap l s bs st hd2)
theorem mdJ.step {W0 : World} {p mp r nn : Nat} {cap : Int} {L l : List DF} {s bs : List UInt8} {st : Int} : ∀ (k : Nat) (u : Value) (w w' : World), mdJ W0 p mp r nn cap L l s bs st k u w → Below w.heap.size w w' → mdJ W0 p mp r nn cap L l s bs st k u w'
  | 0, _, _, _, h, hb => bstep h hb
  | 1, _, _, _, ⟨h1, hd, n', h2, h3⟩, hb => ⟨h1.step hb, hd, n', h2, h3.step hb⟩
  | _ + 2, _, _, _, ⟨h1, hd, n', l', h2, h3, h4, h5⟩, hb => ⟨h1.step hb, hd, n', l', h2, h3.step hb, h4.step hb, h5⟩
theorem mdJ.fr {W0 : World} {p mp r nn : Nat} {cap : Int} {L l : List DF} {s bs : List UInt8} {st : Int} : ∀ (k : Nat) (u : Value) (w : World), mdJ W0 p mp r nn cap L l s bs st k u w → Fr (fun k => (k = p ∨ k = mp) ∨ k = r) W0 w
  | 0, _, _, h => Fr.of_below h
  | 1, _, _, ⟨h, _⟩ => h.weak (fun _ e => .inl e)
  | _ + 2, _, _, ⟨h, _⟩ => h
end
end Go.Proofs.YtphnfcgdpdimbaaGreatDoor

/-
  dolmenref01.turned. Conditions: a word is below 2^32; it is turned by 1 to 31.
-/
namespace Go.Proofs.YtphnfcgdpdimbaaGreatDoor
open Go.RowKit

set_option maxRecDepth 100000 in
theorem rturned_any (x k : Nat) (w : World) (hx : x < 4294967296) (hk : 0 < k) (hk2 : k < 32) :
    Calls Tryz.prog 284 #[U32 x, I k] w fun e w' => e = .returned (U32 (rot32 x k)) ∧ ∃ m, w' = w.drewN m := by
  have k1 : IntKind.i64.wrap ((32 : Int) - (k : Int)) = ((32 - k : Nat) : Int) := by rw [IntWalk.i64_in _ (by omega)]; omega
  have d1 : decide ((k : Int) < 0) = false := decide_eq_false (by omega)
  have d2 : decide (((32 - k : Nat) : Int) < 0) = false := decide_eq_false (by omega)
  go_enter Tryz.func284, Tryz.ntmps284
  go_wp2
  go_quiet (fail)
  go_wp2
  go_ret
  refine ⟨?_, _, rfl⟩
  have e1 : (x : Int) * 2 ^ k % 4294967296 = (((x <<< k) % two32 : Nat) : Int) := by
    rw [Nat.shiftLeft_eq, Int.natCast_emod, Int.natCast_mul, Int.natCast_pow]
    rfl
  have e2 : (x : Int) / 2 ^ (32 - k) = ((x >>> (32 - k) : Nat) : Int) := by
    rw [Nat.shiftRight_eq_div_pow, Int.natCast_ediv, Int.natCast_pow]
    rfl
  rw [e1, e2, or32 _ _ (Nat.mod_lt _ (by decide)) (by rw [Nat.shiftRight_eq_div_pow]; exact Nat.lt_of_le_of_lt (Nat.div_le_self _ _) hx)]
  rfl
end Go.Proofs.YtphnfcgdpdimbaaGreatDoor

/-
  dolmenref01.take: a block is taken. Conditions: the state is a row of eight words; 32 bytes can be read.
-/
namespace Go.Proofs.YtphnfcgdpdimbaaGreatDoor
open Go.RowKit

def rt4Phi (b off c i co gg9 c5 : Nat) (Ao A5 : Option Addr) (c0 c1 c2 c3 : UInt8) (j0 j1 j2 j3 b0 b1 b2 b3 m1 m2 m3 a1 a2 a3 : Nat) : Nat → Value → World → Prop
  | 0, v, _ => v = .slice Ao i co
  | 1, v, _ => v = .slice (some ⟨b, off, none⟩) 32 c
  | 2, v, _ => v = I ((i : Int))
  | 3, v, _ => v = I ((j0 : Int))
  | 4, v, _ => v = .pointer (some ⟨b, off + j0, none⟩)
  | 5, v, _ => v = U8 c0
  | 6, v, _ => v = U32 b0
  | 7, v, _ => v = .slice (some ⟨b, off, none⟩) 32 c
  | 8, v, _ => v = I ((i : Int))
  | 9, v, _ => v = I ((j0 : Int))
  | 10, v, _ => v = I ((j1 : Int))
  | 11, v, _ => v = .pointer (some ⟨b, off + j1, none⟩)
  | 12, v, _ => v = U8 c1
  | 13, v, _ => v = U32 b1
  | 14, v, _ => v = U32 m1
  | 15, v, _ => v = U32 a1
  | 16, v, _ => v = .slice (some ⟨b, off, none⟩) 32 c
  | 17, v, _ => v = I ((i : Int))
  | 18, v, _ => v = I ((j0 : Int))
  | 19, v, _ => v = I ((j2 : Int))
  | 20, v, _ => v = .pointer (some ⟨b, off + j2, none⟩)
  | 21, v, _ => v = U8 c2
  | 22, v, _ => v = U32 b2
  | 23, v, _ => v = U32 m2
  | 24, v, _ => v = U32 a2
  | 25, v, _ => v = .slice (some ⟨b, off, none⟩) 32 c
  | 26, v, _ => v = I ((i : Int))
  | 27, v, _ => v = I ((j0 : Int))
  | 28, v, _ => v = I ((j3 : Int))
  | 29, v, _ => v = .pointer (some ⟨b, off + j3, none⟩)
  | 30, v, _ => v = U8 c3
  | 31, v, _ => v = U32 b3
  | 32, v, _ => v = U32 m3
  | 33, v, _ => v = U32 a3
  | 34, v, _ => v = .slice (some ⟨gg9, 0, none⟩) 1 1
  | 35, v, _ => v = .slice A5 (i + 1) c5
  | _, _, _ => True
theorem Tryz.infoU32 : (Tryz.prog.info? 263).map (fun i => (i.zero, i.size, i.bytes)) = some (some (.int .u32 0), 1, 4) := by kernel_rfl
theorem one_u32s (l : List Nat) : ∀ u ∈ u32s l, u.oneCell' = true := by
  intro u hu; obtain ⟨s, _, rfl⟩ := List.mem_map.1 hu; rfl
theorem wrap32_both (z : Int) (x : Nat) (h : z = x) (hx : x < 4294967296) : IntKind.u32.wrap z = (x : Int) ∧ z % 4294967296 = (x : Int) := by
  subst h
  exact ⟨wrapN32 x (by omega), by omega⟩
theorem wrap64_both (z : Int) (x : Nat) (h : z = x) (hx : x < 1000000000000) : IntKind.i64.wrap z = (x : Int) ∧ wrap64 z = (x : Int) := by
  subst h
  exact ⟨IntWalk.i64_in _ (by omega), by unfold wrap64; omega⟩
/-- the first i words of a block -/
def wordK9 (l : List UInt8) (i : Nat) : List Nat := (List.range i).map fun k => num4 l (4 * k)
theorem wordK9_succ (l : List UInt8) (i : Nat) : wordK9 l (i + 1) = wordK9 l i ++ [num4 l (4 * i)] := by
  unfold wordK9
  rw [List.range_succ, List.map_append]
  rfl
theorem wordK9_len (l : List UInt8) (i : Nat) : (wordK9 l i).length = i := by unfold wordK9; simp
theorem wordK9_lt (l : List UInt8) (i : Nat) : ∀ x ∈ wordK9 l i, x < 4294967296 := by
  intro x hx
  obtain ⟨k, _, rfl⟩ := List.mem_map.1 hx
  exact num4_lt l _
theorem sl_u32 (w : World) (t : TypeId) (x : Nat) : Sl (w.alloc (.cells #[U32 x] t)) 1 (some ⟨w.heap.size, 0, none⟩) 1 (u32s [x]) := by
  refine ⟨by simp [u32s], fun _ => ⟨_, _, rfl, by simp, fun k hk => ?_⟩⟩
  rw [Nat.zero_add]
  simp [u32s]
theorem byte_val (l : List UInt8) (k : Nat) (hk : k < l.length) : (u8s l)[k]? = some (U8 (l.getD k 0)) := by
  unfold u8s
  rw [List.getElem?_map, List.getElem?_eq_getElem hk, List.getD_eq_getElem?_getD, List.getElem?_eq_getElem hk]
  rfl
set_option maxRecDepth 100000 in
set_option maxHeartbeats 8000000 in
theorem rtake_any (w : World) (p cs9 : Nat) (s : List Nat) (rest : List Value) (A : Option Addr) (c : Nat) (l : List UInt8) (hp : Blk w p 263 (u32s s ++ rest).toArray) (hs : s.length = 8) (hlt : ∀ x ∈ s, x < 4294967296) (hA : SlT (fun _ => True) 5 w 1 A 32 (u8s l)) :
    Calls Tryz.prog 231 #[.slice (some ⟨p, 0, none⟩) 8 cs9, .slice A 32 c] w fun e w' => e = .returned (.tuple #[]) ∧ (∃ s', Blk w' p 263 (u32s s' ++ rest).toArray ∧ s'.length = 8 ∧ ∀ x ∈ s', x < 4294967296) ∧ Fr (fun k => k = p) w w' := by
  obtain ⟨i0, hi0, hz0, hz1, hz2⟩ := info_parts Tryz.infoU32
  obtain ⟨b, off, hAe, hbw⟩ : ∃ b off, A = some ⟨b, off, none⟩ ∧ b < w.heap.size := by
    obtain ⟨b, off, h1, h2, _⟩ := hA.sl.2 (by omega)
    exact ⟨b, off, h1, h2⟩
  subst hAe
  have hll : l.length = 32 := by have := hA.sl.1; simp [u8s] at this; omega
  have HP := Lib.hid hp
  have HA := Lib.hid hA
  have HL := Lib.hid hlt
  have Hs := Lib.hid hs
  have Hll := Lib.hid hll
  clear hp hA hlt hs hll
  go_enter Tryz.func231, Tryz.ntmps231
  go_wp2
  go_loopw [4, 5] (fun wv iv wr => ∃ (i co : Nat) (Ao : Option Addr), i ≤ 8 ∧ wv = .slice Ao i co ∧ iv = .int .i64 i ∧ Hid (Ow w wr 263 1 Ao i co (u32s (wordK9 l i)))) (fun _ v _ => 8 - (intOf v).toNat)
  case atStart => exact ⟨0, 0, none, Nat.zero_le _, rfl, rfl, Lib.hid (Ow.nil_ (Below.refl _ _))⟩
  case round =>
    obtain ⟨i, co, Ao, hi, rfl, rfl, hO⟩ := hrel
    by_cases hlt : i < 8
    · have d1 : decide ((i : Int) < 8) = true := decide_eq_true (by omega)
      obtain ⟨j0, hj0⟩ : ∃ j0, j0 = 4 * i := ⟨_, rfl⟩
      obtain ⟨j1, hj1⟩ : ∃ j1, j1 = 4 * i + 1 := ⟨_, rfl⟩
      obtain ⟨j2, hj2⟩ : ∃ j2, j2 = 4 * i + 2 := ⟨_, rfl⟩
      obtain ⟨j3, hj3⟩ : ∃ j3, j3 = 4 * i + 3 := ⟨_, rfl⟩
      obtain ⟨c0, hc0⟩ : ∃ c0, c0 = l.getD j0 0 := ⟨_, rfl⟩
      obtain ⟨c1, hc1⟩ : ∃ c1, c1 = l.getD j1 0 := ⟨_, rfl⟩
      obtain ⟨c2, hc2⟩ : ∃ c2, c2 = l.getD j2 0 := ⟨_, rfl⟩
      obtain ⟨c3, hc3⟩ : ∃ c3, c3 = l.getD j3 0 := ⟨_, rfl⟩
      have HY : Hid (∀ V, Below w.heap.size w V → V.cell? ⟨b, off + j0, none⟩ = some (U8 c0) ∧ V.cell? ⟨b, off + j1, none⟩ = some (U8 c1) ∧ V.cell? ⟨b, off + j2, none⟩ = some (U8 c2) ∧ V.cell? ⟨b, off + j3, none⟩ = some (U8 c3)) := Lib.hid (fun V hV => by
        obtain ⟨b9, o9, e9, _, hcell⟩ := HA.out.sl.2 (by omega)
        cases e9
        have hll := Hll.out
        have hat : ∀ k, k < 32 → V.cell? ⟨b, off + k, none⟩ = some (U8 (l.getD k 0)) := fun k hk => by
          rw [World.cell?_of_block (hV.block b hbw), hcell k (by omega)]
          exact byte_val l k (by omega)
        exact ⟨by rw [hc0]; exact hat j0 (by omega), by rw [hc1]; exact hat j1 (by omega), by rw [hc2]; exact hat j2 (by omega), by rw [hc3]; exact hat j3 (by omega)⟩)
      obtain ⟨b0, hb0⟩ : ∃ b0, b0 = c0.toNat := ⟨_, rfl⟩
      obtain ⟨b1, hb1⟩ : ∃ b1, b1 = c1.toNat := ⟨_, rfl⟩
      obtain ⟨b2, hb2⟩ : ∃ b2, b2 = c2.toNat := ⟨_, rfl⟩
      obtain ⟨b3, hb3⟩ : ∃ b3, b3 = c3.toNat := ⟨_, rfl⟩
      have hl0 : b0 < 256 := by rw [hb0]; exact c0.toNat_lt
      have hl1 : b1 < 256 := by rw [hb1]; exact c1.toNat_lt
      have hl2 : b2 < 256 := by rw [hb2]; exact c2.toNat_lt
      have hl3 : b3 < 256 := by rw [hb3]; exact c3.toNat_lt
      obtain ⟨m1, hm1⟩ : ∃ m1, m1 = 256 * b1 := ⟨_, rfl⟩
      obtain ⟨m2, hm2⟩ : ∃ m2, m2 = 65536 * b2 := ⟨_, rfl⟩
      obtain ⟨m3, hm3⟩ : ∃ m3, m3 = 16777216 * b3 := ⟨_, rfl⟩
      obtain ⟨a1, ha1⟩ : ∃ a1, a1 = b0 + m1 := ⟨_, rfl⟩
      obtain ⟨a2, ha2⟩ : ∃ a2, a2 = a1 + m2 := ⟨_, rfl⟩
      obtain ⟨a3, ha3⟩ : ∃ a3, a3 = a2 + m3 := ⟨_, rfl⟩
      have hnum : a3 = num4 l (4 * i) := by
        rw [ha3, ha2, ha1, hm1, hm2, hm3, hb0, hb1, hb2, hb3, hc0, hc1, hc2, hc3, hj0, hj1, hj2, hj3]
        unfold num4
        omega
      have K0 : Hid (IntKind.i64.wrap (4 * (i : Int)) = (j0 : Int) ∧ wrap64 (4 * (i : Int)) = (j0 : Int)) := Lib.hid (wrap64_both _ _ (by omega) (by omega))
      have K1 : Hid (IntKind.i64.wrap ((j0 : Int) + 1) = (j1 : Int) ∧ wrap64 ((j0 : Int) + 1) = (j1 : Int)) := Lib.hid (wrap64_both _ _ (by omega) (by omega))
      have K2 : Hid (IntKind.i64.wrap ((j0 : Int) + 2) = (j2 : Int) ∧ wrap64 ((j0 : Int) + 2) = (j2 : Int)) := Lib.hid (wrap64_both _ _ (by omega) (by omega))
      have K3 : Hid (IntKind.i64.wrap ((j0 : Int) + 3) = (j3 : Int) ∧ wrap64 ((j0 : Int) + 3) = (j3 : Int)) := Lib.hid (wrap64_both _ _ (by omega) (by omega))
      have KC0 : Hid (IntKind.u32.wrap (c0.toNat : Int) = (b0 : Int) ∧ (c0.toNat : Int) % 4294967296 = (b0 : Int)) := Lib.hid (wrap32_both _ _ (by omega) (by omega))
      have KC1 : Hid (IntKind.u32.wrap (c1.toNat : Int) = (b1 : Int) ∧ (c1.toNat : Int) % 4294967296 = (b1 : Int)) := Lib.hid (wrap32_both _ _ (by omega) (by omega))
      have KC2 : Hid (IntKind.u32.wrap (c2.toNat : Int) = (b2 : Int) ∧ (c2.toNat : Int) % 4294967296 = (b2 : Int)) := Lib.hid (wrap32_both _ _ (by omega) (by omega))
      have KC3 : Hid (IntKind.u32.wrap (c3.toNat : Int) = (b3 : Int) ∧ (c3.toNat : Int) % 4294967296 = (b3 : Int)) := Lib.hid (wrap32_both _ _ (by omega) (by omega))
      have KM1 : Hid (IntKind.u32.wrap (256 * (b1 : Int)) = (m1 : Int) ∧ 256 * (b1 : Int) % 4294967296 = (m1 : Int)) := Lib.hid (wrap32_both _ _ (by omega) (by omega))
      have KM2 : Hid (IntKind.u32.wrap (65536 * (b2 : Int)) = (m2 : Int) ∧ 65536 * (b2 : Int) % 4294967296 = (m2 : Int)) := Lib.hid (wrap32_both _ _ (by omega) (by omega))
      have KM3 : Hid (IntKind.u32.wrap (16777216 * (b3 : Int)) = (m3 : Int) ∧ 16777216 * (b3 : Int) % 4294967296 = (m3 : Int)) := Lib.hid (wrap32_both _ _ (by omega) (by omega))
      have KA1 : Hid (IntKind.u32.wrap ((b0 : Int) + (m1 : Int)) = (a1 : Int) ∧ ((b0 : Int) + (m1 : Int)) % 4294967296 = (a1 : Int)) := Lib.hid (wrap32_both _ _ (by omega) (by omega))
      have KA2 : Hid (IntKind.u32.wrap ((a1 : Int) + (m2 : Int)) = (a2 : Int) ∧ ((a1 : Int) + (m2 : Int)) % 4294967296 = (a2 : Int)) := Lib.hid (wrap32_both _ _ (by omega) (by omega))
      have KA3 : Hid (IntKind.u32.wrap ((a2 : Int) + (m3 : Int)) = (a3 : Int) ∧ ((a2 : Int) + (m3 : Int)) % 4294967296 = (a3 : Int)) := Lib.hid (wrap32_both _ _ (by omega) (by omega))
      have hjn : (j0 : Int) < 32 ∧ (j1 : Int) < 32 ∧ (j2 : Int) < 32 ∧ (j3 : Int) < 32 := by omega
      obtain ⟨hn0, hn1, hn2, hn3⟩ := hjn
      obtain ⟨W, hW⟩ : ∃ W, W = wr := ⟨_, rfl⟩
      subst hW
      have HO6 := Lib.hid (hO.out.drew.alloc (.cells #[U32 a3] 263))
      have hS6 := sl_u32 W.drew 263 a3
      obtain ⟨A5, c5, w5, hrun, hO5, hg5, _⟩ := run_append_sl (P := Tryz.prog) _ w.heap.size 312 312 263 i0 _ 1 4 Tryz.underlying312 hi0 hz0 hz1 hz2 rfl (by decide) (.slice Ao i co) i (u32s (wordK9 l i)) HO6.out.1 _ 1 1 (u32s [a3]) hS6 (one_u32s _) (by simp only [maxLen]; omega) (by omega) HO6.out.2.size
      have hb5 : Below w.heap.size w w5 := HO6.out.2.grown hg5 HO6.out.2.size (fun k hk => (HO6.out.1.lt k hk).1)
      have HO5 : Hid (Ow w w5 263 1 A5 (i + 1) c5 (u32s (wordK9 l (i + 1)))) := Lib.hid (by
        rw [wordK9_succ, ← hnum, show u32s (wordK9 l i ++ [a3]) = u32s (wordK9 l i) ++ u32s [a3] by simp [u32s]]
        exact ⟨hO5, hb5⟩)
      have HBel := Lib.hid (CJ.bel (w0 := w) (W0 := W.drew) (W1 := W.drew.alloc (.cells #[U32 a3] 263)) (W2 := w5) hO.out.2.drew HO6.out.2 hb5)
      have Hrun := Lib.hid hrun
      clear hS6 hrun hO5 hg5 hb5 HO6 hj0 hj1 hj2 hj3 hc0 hc1 hc2 hc3 hb0 hb1 hb2 hb3 hm1 hm2 hm3 ha1 ha2 ha3 hnum hl0 hl1 hl2 hl3
      obtain ⟨gg9, hgg⟩ : ∃ gg9, gg9 = W.heap.size := ⟨_, rfl⟩
      have Hg := Lib.hid hgg
      clear hgg
      go_wp2
      refine wp_region_pairR (by kernel_rfl) 36 (by kernel_rfl) ?_ (fun q v => rt4Phi b off c i co gg9 c5 Ao A5 c0 c1 c2 c3 j0 j1 j2 j3 b0 b1 b2 b3 m1 m2 m3 a1 a2 a3 q v W) 34 35 (by kernel_rfl) (fun w w' => w' = w) (fun _ => rfl) (CJ W.drew (W.drew.alloc (.cells #[U32 a3] 263)) w5) CJ.step rfl (fun i9 o hi hi1 hi2 ho a w k' hk hk2 hs hm => ?_) (fun o ho a w hj hs hm => ?_) (fun o ho a w hj hs hm => ?_) (fun o ho a w hj hs hm => ?_)
      · exact dst_ltC2 (n := 90) (by kernel_rfl)
      · obtain ⟨y0, y1, y2, y3⟩ := HY.out w (HBel.out k' w hk)
        exact match i9, hi, ho, hi1, hi2 with
            | 0, _, ho, _, _ => by
                cases ho
                rw [if_pos (wanted_none _ rfl)]
                refine wp_value (st_move rfl ((hs.keeps (by kernel_rfl)).trans rfl)) ⟨_, rfl, rfl, rfl⟩
            | 1, _, ho, _, _ => by
                cases ho
                rw [if_pos (wanted_none _ rfl)]
                refine wp_value (st_move rfl ((hs.keeps (by kernel_rfl)).trans rfl)) ⟨_, rfl, rfl, rfl⟩
            | 2, _, ho, _, _ => by
                cases ho
                rw [if_pos (wanted_none _ rfl)]
                refine wp_value (st_move rfl ((hs.keeps (by kernel_rfl)).trans rfl)) ⟨_, rfl, rfl, rfl⟩
            | 3, _, ho, _, _ => by
                cases ho
                rw [if_pos (wanted_none _ rfl)]
                have h1 := eval_getD (hm.get 2 15 (by kernel_rfl)); unfold Oper.wp; simp only [execOp]; go_simp; (first | exact ⟨_, rfl, (by first | rfl | (show Value.int _ _ = Value.int _ _; first | rw [K0.out.1] | rw [K0.out.2]))⟩ | exact ⟨_, rfl, (by first | rfl | (show Value.int _ _ = Value.int _ _; first | rw [K0.out.1] | rw [K0.out.2])), rfl⟩)
            | 4, _, ho, _, _ => by
                cases ho
                rw [if_pos (wanted_none _ rfl)]
                have h1 := eval_getD (hm.get 1 14 (by kernel_rfl)); have h2 := eval_getD (hm.get 3 16 (by kernel_rfl)); unfold Oper.wp; simp only [execOp]; go_simp; (first | exact ⟨_, rfl, (rfl)⟩ | exact ⟨_, rfl, (rfl), rfl⟩)
            | 5, _, ho, _, _ => by
                cases ho
                rw [if_pos (wanted_none _ rfl)]
                have hx := y0; have h1 := eval_getD (hm.get 4 17 (by kernel_rfl)); unfold Oper.wp; simp only [execOp]; go_simp; (first | exact ⟨_, rfl, (rfl)⟩ | exact ⟨_, rfl, (rfl), rfl⟩)
            | 6, _, ho, _, _ => by
                cases ho
                rw [if_pos (wanted_none _ rfl)]
                have h1 := eval_getD (hm.get 5 18 (by kernel_rfl)); unfold Oper.wp; simp only [execOp]; go_simp; (first | exact ⟨_, rfl, (by first | rfl | (show Value.int _ _ = Value.int _ _; first | rw [KC0.out.1] | rw [KC0.out.2]))⟩ | exact ⟨_, rfl, (by first | rfl | (show Value.int _ _ = Value.int _ _; first | rw [KC0.out.1] | rw [KC0.out.2])), rfl⟩)
            | 7, _, ho, _, _ => by
                cases ho
                rw [if_pos (wanted_none _ rfl)]
                refine wp_value (st_move rfl ((hs.keeps (by kernel_rfl)).trans rfl)) ⟨_, rfl, rfl, rfl⟩
            | 8, _, ho, _, _ => by
                cases ho
                rw [if_pos (wanted_none _ rfl)]
                refine wp_value (st_move rfl ((hs.keeps (by kernel_rfl)).trans rfl)) ⟨_, rfl, rfl, rfl⟩
            | 9, _, ho, _, _ => by
                cases ho
                rw [if_pos (wanted_none _ rfl)]
                have h1 := eval_getD (hm.get 8 21 (by kernel_rfl)); unfold Oper.wp; simp only [execOp]; go_simp; (first | exact ⟨_, rfl, (by first | rfl | (show Value.int _ _ = Value.int _ _; first | rw [K0.out.1] | rw [K0.out.2]))⟩ | exact ⟨_, rfl, (by first | rfl | (show Value.int _ _ = Value.int _ _; first | rw [K0.out.1] | rw [K0.out.2])), rfl⟩)
            | 10, _, ho, _, _ => by
                cases ho
                rw [if_pos (wanted_none _ rfl)]
                have h1 := eval_getD (hm.get 9 22 (by kernel_rfl)); unfold Oper.wp; simp only [execOp]; go_simp; (first | exact ⟨_, rfl, (by first | rfl | (show Value.int _ _ = Value.int _ _; first | rw [K1.out.1] | rw [K1.out.2]))⟩ | exact ⟨_, rfl, (by first | rfl | (show Value.int _ _ = Value.int _ _; first | rw [K1.out.1] | rw [K1.out.2])), rfl⟩)
            | 11, _, ho, _, _ => by
                cases ho
                rw [if_pos (wanted_none _ rfl)]
                have h1 := eval_getD (hm.get 7 20 (by kernel_rfl)); have h2 := eval_getD (hm.get 10 23 (by kernel_rfl)); unfold Oper.wp; simp only [execOp]; go_simp; (first | exact ⟨_, rfl, (rfl)⟩ | exact ⟨_, rfl, (rfl), rfl⟩)
            | 12, _, ho, _, _ => by
                cases ho
                rw [if_pos (wanted_none _ rfl)]
                have hx := y1; have h1 := eval_getD (hm.get 11 24 (by kernel_rfl)); unfold Oper.wp; simp only [execOp]; go_simp; (first | exact ⟨_, rfl, (rfl)⟩ | exact ⟨_, rfl, (rfl), rfl⟩)
            | 13, _, ho, _, _ => by
                cases ho
                rw [if_pos (wanted_none _ rfl)]
                have h1 := eval_getD (hm.get 12 25 (by kernel_rfl)); unfold Oper.wp; simp only [execOp]; go_simp; (first | exact ⟨_, rfl, (by first | rfl | (show Value.int _ _ = Value.int _ _; first | rw [KC1.out.1] | rw [KC1.out.2]))⟩ | exact ⟨_, rfl, (by first | rfl | (show Value.int _ _ = Value.int _ _; first | rw [KC1.out.1] | rw [KC1.out.2])), rfl⟩)
            | 14, _, ho, _, _ => by
                cases ho
                rw [if_pos (wanted_none _ rfl)]
                have h1 := eval_getD (hm.get 13 26 (by kernel_rfl)); unfold Oper.wp; simp only [execOp]; go_simp; (first | exact ⟨_, rfl, (by first | rfl | (show Value.int _ _ = Value.int _ _; first | rw [KM1.out.1] | rw [KM1.out.2]))⟩ | exact ⟨_, rfl, (by first | rfl | (show Value.int _ _ = Value.int _ _; first | rw [KM1.out.1] | rw [KM1.out.2])), rfl⟩)
            | 15, _, ho, _, _ => by
                cases ho
                rw [if_pos (wanted_none _ rfl)]
                have h1 := eval_getD (hm.get 6 19 (by kernel_rfl)); have h2 := eval_getD (hm.get 14 27 (by kernel_rfl)); unfold Oper.wp; simp only [execOp]; go_simp; (first | exact ⟨_, rfl, (by first | rfl | (show Value.int _ _ = Value.int _ _; first | rw [KA1.out.1] | rw [KA1.out.2]))⟩ | exact ⟨_, rfl, (by first | rfl | (show Value.int _ _ = Value.int _ _; first | rw [KA1.out.1] | rw [KA1.out.2])), rfl⟩)
            | 16, _, ho, _, _ => by
                cases ho
                rw [if_pos (wanted_none _ rfl)]
                refine wp_value (st_move rfl ((hs.keeps (by kernel_rfl)).trans rfl)) ⟨_, rfl, rfl, rfl⟩
            | 17, _, ho, _, _ => by
                cases ho
                rw [if_pos (wanted_none _ rfl)]
                refine wp_value (st_move rfl ((hs.keeps (by kernel_rfl)).trans rfl)) ⟨_, rfl, rfl, rfl⟩
            | 18, _, ho, _, _ => by
                cases ho
                rw [if_pos (wanted_none _ rfl)]
                have h1 := eval_getD (hm.get 17 30 (by kernel_rfl)); unfold Oper.wp; simp only [execOp]; go_simp; (first | exact ⟨_, rfl, (by first | rfl | (show Value.int _ _ = Value.int _ _; first | rw [K0.out.1] | rw [K0.out.2]))⟩ | exact ⟨_, rfl, (by first | rfl | (show Value.int _ _ = Value.int _ _; first | rw [K0.out.1] | rw [K0.out.2])), rfl⟩)
            | 19, _, ho, _, _ => by
                cases ho
                rw [if_pos (wanted_none _ rfl)]
                have h1 := eval_getD (hm.get 18 31 (by kernel_rfl)); unfold Oper.wp; simp only [execOp]; go_simp; (first | exact ⟨_, rfl, (by first | rfl | (show Value.int _ _ = Value.int _ _; first | rw [K2.out.1] | rw [K2.out.2]))⟩ | exact ⟨_, rfl, (by first | rfl | (show Value.int _ _ = Value.int _ _; first | rw [K2.out.1] | rw [K2.out.2])), rfl⟩)
            | 20, _, ho, _, _ => by
                cases ho
                rw [if_pos (wanted_none _ rfl)]
                have h1 := eval_getD (hm.get 16 29 (by kernel_rfl)); have h2 := eval_getD (hm.get 19 32 (by kernel_rfl)); unfold Oper.wp; simp only [execOp]; go_simp; (first | exact ⟨_, rfl, (rfl)⟩ | exact ⟨_, rfl, (rfl), rfl⟩)
            | 21, _, ho, _, _ => by
                cases ho
                rw [if_pos (wanted_none _ rfl)]
                have hx := y2; have h1 := eval_getD (hm.get 20 33 (by kernel_rfl)); unfold Oper.wp; simp only [execOp]; go_simp; (first | exact ⟨_, rfl, (rfl)⟩ | exact ⟨_, rfl, (rfl), rfl⟩)
            | 22, _, ho, _, _ => by
                cases ho
                rw [if_pos (wanted_none _ rfl)]
                have h1 := eval_getD (hm.get 21 34 (by kernel_rfl)); unfold Oper.wp; simp only [execOp]; go_simp; (first | exact ⟨_, rfl, (by first | rfl | (show Value.int _ _ = Value.int _ _; first | rw [KC2.out.1] | rw [KC2.out.2]))⟩ | exact ⟨_, rfl, (by first | rfl | (show Value.int _ _ = Value.int _ _; first | rw [KC2.out.1] | rw [KC2.out.2])), rfl⟩)
            | 23, _, ho, _, _ => by
                cases ho
                rw [if_pos (wanted_none _ rfl)]
                have h1 := eval_getD (hm.get 22 35 (by kernel_rfl)); unfold Oper.wp; simp only [execOp]; go_simp; (first | exact ⟨_, rfl, (by first | rfl | (show Value.int _ _ = Value.int _ _; first | rw [KM2.out.1] | rw [KM2.out.2]))⟩ | exact ⟨_, rfl, (by first | rfl | (show Value.int _ _ = Value.int _ _; first | rw [KM2.out.1] | rw [KM2.out.2])), rfl⟩)
            | 24, _, ho, _, _ => by
                cases ho
                rw [if_pos (wanted_none _ rfl)]
                have h1 := eval_getD (hm.get 15 28 (by kernel_rfl)); have h2 := eval_getD (hm.get 23 36 (by kernel_rfl)); unfold Oper.wp; simp only [execOp]; go_simp; (first | exact ⟨_, rfl, (by first | rfl | (show Value.int _ _ = Value.int _ _; first | rw [KA2.out.1] | rw [KA2.out.2]))⟩ | exact ⟨_, rfl, (by first | rfl | (show Value.int _ _ = Value.int _ _; first | rw [KA2.out.1] | rw [KA2.out.2])), rfl⟩)
            | 25, _, ho, _, _ => by
                cases ho
                rw [if_pos (wanted_none _ rfl)]
                refine wp_value (st_move rfl ((hs.keeps (by kernel_rfl)).trans rfl)) ⟨_, rfl, rfl, rfl⟩
            | 26, _, ho, _, _ => by
                cases ho
                rw [if_pos (wanted_none _ rfl)]
                refine wp_value (st_move rfl ((hs.keeps (by kernel_rfl)).trans rfl)) ⟨_, rfl, rfl, rfl⟩
            | 27, _, ho, _, _ => by
                cases ho
                rw [if_pos (wanted_none _ rfl)]
                have h1 := eval_getD (hm.get 26 39 (by kernel_rfl)); unfold Oper.wp; simp only [execOp]; go_simp; (first | exact ⟨_, rfl, (by first | rfl | (show Value.int _ _ = Value.int _ _; first | rw [K0.out.1] | rw [K0.out.2]))⟩ | exact ⟨_, rfl, (by first | rfl | (show Value.int _ _ = Value.int _ _; first | rw [K0.out.1] | rw [K0.out.2])), rfl⟩)
            | 28, _, ho, _, _ => by
                cases ho
                rw [if_pos (wanted_none _ rfl)]
                have h1 := eval_getD (hm.get 27 40 (by kernel_rfl)); unfold Oper.wp; simp only [execOp]; go_simp; (first | exact ⟨_, rfl, (by first | rfl | (show Value.int _ _ = Value.int _ _; first | rw [K3.out.1] | rw [K3.out.2]))⟩ | exact ⟨_, rfl, (by first | rfl | (show Value.int _ _ = Value.int _ _; first | rw [K3.out.1] | rw [K3.out.2])), rfl⟩)
            | 29, _, ho, _, _ => by
                cases ho
                rw [if_pos (wanted_none _ rfl)]
                have h1 := eval_getD (hm.get 25 38 (by kernel_rfl)); have h2 := eval_getD (hm.get 28 41 (by kernel_rfl)); unfold Oper.wp; simp only [execOp]; go_simp; (first | exact ⟨_, rfl, (rfl)⟩ | exact ⟨_, rfl, (rfl), rfl⟩)
            | 30, _, ho, _, _ => by
                cases ho
                rw [if_pos (wanted_none _ rfl)]
                have hx := y3; have h1 := eval_getD (hm.get 29 42 (by kernel_rfl)); unfold Oper.wp; simp only [execOp]; go_simp; (first | exact ⟨_, rfl, (rfl)⟩ | exact ⟨_, rfl, (rfl), rfl⟩)
            | 31, _, ho, _, _ => by
                cases ho
                rw [if_pos (wanted_none _ rfl)]
                have h1 := eval_getD (hm.get 30 43 (by kernel_rfl)); unfold Oper.wp; simp only [execOp]; go_simp; (first | exact ⟨_, rfl, (by first | rfl | (show Value.int _ _ = Value.int _ _; first | rw [KC3.out.1] | rw [KC3.out.2]))⟩ | exact ⟨_, rfl, (by first | rfl | (show Value.int _ _ = Value.int _ _; first | rw [KC3.out.1] | rw [KC3.out.2])), rfl⟩)
            | 32, _, ho, _, _ => by
                cases ho
                rw [if_pos (wanted_none _ rfl)]
                have h1 := eval_getD (hm.get 31 44 (by kernel_rfl)); unfold Oper.wp; simp only [execOp]; go_simp; (first | exact ⟨_, rfl, (by first | rfl | (show Value.int _ _ = Value.int _ _; first | rw [KM3.out.1] | rw [KM3.out.2]))⟩ | exact ⟨_, rfl, (by first | rfl | (show Value.int _ _ = Value.int _ _; first | rw [KM3.out.1] | rw [KM3.out.2])), rfl⟩)
            | 33, _, ho, _, _ => by
                cases ho
                rw [if_pos (wanted_none _ rfl)]
                have h1 := eval_getD (hm.get 24 37 (by kernel_rfl)); have h2 := eval_getD (hm.get 32 45 (by kernel_rfl)); unfold Oper.wp; simp only [execOp]; go_simp; (first | exact ⟨_, rfl, (by first | rfl | (show Value.int _ _ = Value.int _ _; first | rw [KA3.out.1] | rw [KA3.out.2]))⟩ | exact ⟨_, rfl, (by first | rfl | (show Value.int _ _ = Value.int _ _; first | rw [KA3.out.1] | rw [KA3.out.2])), rfl⟩)
            | 34, _, _, h, _ => absurd rfl h
            | 35, _, _, _, h => absurd rfl h
            | (n + 36), hi, _, _, _ => absurd hi (by omega)

      · cases ho
        obtain rfl : w = W.drew := hj
        have h1 := eval_getD (hm.get 33 46 (by kernel_rfl))
        unfold Oper.wp
        simp only [execOp]
        go_simp
        exact ⟨_, rfl, show Value.slice _ _ _ = Value.slice _ _ _ by rw [Hg.out], rfl⟩
      · have hj1 : w = W.drew.alloc (.cells #[U32 a3] 263) := hj
        subst hj1
        obtain ⟨h1, h2, h3, h4, h5⟩ : a.eval (.tmp 13) = .slice Ao i co ∧ a.eval (.tmp 47) = .slice (some ⟨gg9, 0, none⟩) 1 1 ∧ o.op = .call { callee := .builtin .append, args := #[.tmp 13, .tmp 47], argTypes := #[312, 312] } ∧ o.dst = some 48 ∧ o.type = 312 := by
          cases ho
          exact ⟨hm.get 0 13 (by kernel_rfl), hm.get 34 47 (by kernel_rfl), rfl, rfl, rfl⟩
        rw [Hg.out] at h2
        have hr := Hrun.out
        simp only [World.size_drew] at hr
        unfold Oper.wp execOp
        simp only [h3, h5, resolve, invoke, builtin, Sem.run_bind, Sem.run_pure, Result.andThen_ok, List.map_toArray, List.map_cons, List.map_nil, h1, h2, hr]
        exact ⟨_, rfl, rfl, rfl⟩
      · have e1 : a.eval (.tmp 48) = .slice A5 (i + 1) c5 := by cases ho; exact hm.get 35 48 (by kernel_rfl)
        have hfr := hs.frame [13, 14, 15, 16, 17, 18, 19, 20, 21, 22, 23, 24, 25, 26, 27, 28, 29, 30, 31, 32, 33, 34, 35, 36, 37, 38, 39, 40, 41, 42, 43, 44, 45, 46, 47, 48] (by kernel_rfl)
        cases ho
        obtain rfl : w = w5 := hj
        rw [hfr]
        simp only [List.foldl_cons, List.foldl_nil, e1]
        clear hfr hs hm e1
        generalize a.eval (.tmp 13) = u13
        generalize a.eval (.tmp 14) = u14
        generalize a.eval (.tmp 15) = u15
        generalize a.eval (.tmp 16) = u16
        generalize a.eval (.tmp 17) = u17
        generalize a.eval (.tmp 18) = u18
        generalize a.eval (.tmp 19) = u19
        generalize a.eval (.tmp 20) = u20
        generalize a.eval (.tmp 21) = u21
        generalize a.eval (.tmp 22) = u22
        generalize a.eval (.tmp 23) = u23
        generalize a.eval (.tmp 24) = u24
        generalize a.eval (.tmp 25) = u25
        generalize a.eval (.tmp 26) = u26
        generalize a.eval (.tmp 27) = u27
        generalize a.eval (.tmp 28) = u28
        generalize a.eval (.tmp 29) = u29
        generalize a.eval (.tmp 30) = u30
        generalize a.eval (.tmp 31) = u31
        generalize a.eval (.tmp 32) = u32
        generalize a.eval (.tmp 33) = u33
        generalize a.eval (.tmp 34) = u34
        generalize a.eval (.tmp 35) = u35
        generalize a.eval (.tmp 36) = u36
        generalize a.eval (.tmp 37) = u37
        generalize a.eval (.tmp 38) = u38
        generalize a.eval (.tmp 39) = u39
        generalize a.eval (.tmp 40) = u40
        generalize a.eval (.tmp 41) = u41
        generalize a.eval (.tmp 42) = u42
        generalize a.eval (.tmp 43) = u43
        generalize a.eval (.tmp 44) = u44
        generalize a.eval (.tmp 45) = u45
        generalize a.eval (.tmp 46) = u46
        generalize a.eval (.tmp 47) = u47
        unfold Oper.wp
        simp only [execOp]
        go_simp
        clear a
        go_wp2
        go_roundw
        case rel => exact ⟨i + 1, c5, A5, hlt, rfl, by go_num, HO5⟩
        case measure => simp [intOf]; omega
    · obtain rfl : i = 8 := by omega
      obtain ⟨W, hW⟩ : ∃ W, W = wordK9 l 8 := ⟨_, rfl⟩
      have hWl : W.length = 8 := by rw [hW]; exact wordK9_len l 8
      have hWb : ∀ x ∈ W, x < 4294967296 := by rw [hW]; exact wordK9_lt l 8
      rw [← hW] at hO
      obtain ⟨g, hAo, hg0, hg1⟩ := hO.out.form (by omega)
      subst hAo
      have hwr := hO.out.2
      obtain ⟨rest2, hG⟩ : ∃ rest2, Blk wr g 263 (u32s W ++ rest2).toArray := by
        rcases hO.out.1.2 with ⟨h, _⟩ | ⟨g', cap, cur, hv, _, hb, _, _, hsz, htk⟩
        · cases h
        · injection hv with e1 e2 e3
          injection e1 with e1
          injection e1 with e1
          subst e1
          refine ⟨cur.toList.drop 8, ?_⟩
          unfold Blk
          rw [← show cur.toList.take (8 * 1) = u32s W from htk, List.take_append_drop]
          simpa using hb
      have HP2 := Lib.hid (HP.out.step hwr)
      have HF2 : Hid (Fr (fun k => k = p) w wr) := Lib.hid (.of_below hwr)
      have hgp : g ≠ p := fun e => by have := HP.out.lt; omega
      have Hgp := Lib.hid hgp
      have HWl := Lib.hid hWl
      have HWb := Lib.hid hWb
      have H1g := Lib.hid hG
      clear hW hWl hWb hg0 hg1 hwr hG hgp hO HA hi
      go_wp2
      go_loopw [6, 7, 8] (fun s21 _ _ wr => ∃ r : Nat, r ≤ 8 ∧ s21 = .int .i64 r ∧ Hid (Blk wr g 263 (u32s W ++ rest2).toArray) ∧ Hid (Blk wr p 263 (u32s (stepsW W s (8 * r)) ++ rest).toArray) ∧ Hid (Fr (fun k => k = p) w wr)) (fun s21 _ _ _ => 8 - (intOf s21).toNat)
      case atStart => exact ⟨0, by omega, rfl, H1g, HP2, HF2⟩
      case round =>
        obtain ⟨r, hr, rfl, G1, P1, F1⟩ := hrel
        by_cases hlt : r < 8
        · have hd22 : decide ((r : Int) < 8) = true := decide_eq_true (by omega)
          go_wp2
          go_loopw [7, 8] (fun s24 _ wr => ∃ j : Nat, j ≤ 8 ∧ s24 = .int .i64 j ∧ Hid (Blk wr g 263 (u32s W ++ rest2).toArray) ∧ Hid (Blk wr p 263 (u32s (stepsW W s (8 * r + j)) ++ rest).toArray) ∧ Hid (Fr (fun k => k = p) w wr)) (fun s24 _ _ => 8 - (intOf s24).toNat)
          case atStart => exact ⟨0, by omega, rfl, G1, P1, F1⟩
          case round =>
            obtain ⟨j, hj, rfl, G2, P2, F2⟩ := hrel
            by_cases hlt2 : j < 8
            · obtain ⟨st, hst⟩ : ∃ st, st = stepsW W s (8 * r + j) := ⟨_, rfl⟩
              have Hst := Lib.hid hst
              have hsl : st.length = 8 := by rw [hst, stepsW_len]; exact Hs.out
              have hsb : ∀ x ∈ st, x < 4294967296 := by rw [hst]; exact stepsW_lt HL.out _
              rw [← hst] at P2
              obtain ⟨m, hm⟩ : ∃ m, m = (j + r) % 8 := ⟨_, rfl⟩
              obtain ⟨m2, hm2⟩ : ∃ m2, m2 = (j + 1) % 8 := ⟨_, rfl⟩
              obtain ⟨a, ha⟩ : ∃ a, a = st.getD j 0 := ⟨_, rfl⟩
              obtain ⟨b, hb⟩ : ∃ b, b = W.getD m 0 := ⟨_, rfl⟩
              obtain ⟨d, hd⟩ : ∃ d, d = st.getD m2 0 := ⟨_, rfl⟩
              have ca : wr.cell? ⟨p, j, none⟩ = some (U32 a) := by rw [P2.out.cell j, u32s_at (by rw [hsl]; exact hlt2), ← ha]
              have cb : wr.cell? ⟨g, m, none⟩ = some (U32 b) := by rw [G2.out.cell m, u32s_at (by rw [HWl.out, hm]; omega), ← hb]
              have cd : wr.cell? ⟨p, m2, none⟩ = some (U32 d) := by rw [P2.out.cell m2, u32s_at (by rw [hsl, hm2]; omega), ← hd]
              have hal : a < 4294967296 := by rw [ha]; exact getD_lt hsb j
              have hbl : b < 4294967296 := by rw [hb]; exact getD_lt HWb.out m
              have hdl : d < 4294967296 := by rw [hd]; exact getD_lt hsb m2
              have hxl : a ^^^ b < 4294967296 := Nat.xor_lt_two_pow (n := 32) hal hbl
              have hxo := xor32 a b hal hbl
              have e1 : IntKind.i64.wrap ((j : Int) + (r : Int)) = (j : Int) + (r : Int) := IntWalk.i64_in _ (by omega)
              have e2 : ((j : Int) + (r : Int)).tmod 8 = (m : Int) := by rw [Int.tmod_eq_emod_of_nonneg (by omega)]; omega
              have e3 : IntKind.i64.wrap (3 * (j : Int)) = 3 * (j : Int) := IntWalk.i64_in _ (by omega)
              have e4 : IntKind.i64.wrap (5 + 3 * (j : Int)) = 5 + 3 * (j : Int) := IntWalk.i64_in _ (by omega)
              have CR' : Hid (∀ W', Calls Tryz.prog 284 #[U32 (a ^^^ b), I (5 + 3 * (j : Int))] W' fun e w' => e = .returned (U32 (rot32 (a ^^^ b) (5 + 3 * j))) ∧ ∃ m, w' = W'.drewN m) := Lib.hid (fun W' => by
                have := rturned_any (a ^^^ b) (5 + 3 * j) W' hxl (by omega) (by omega)
                simpa using this)
              have hm8 : (m : Int) < 8 := by omega
              have hm28 : (m2 : Int) < 8 := by omega
              have Hmm := Lib.hid (And.intro hm hm2)
              have Ha := Lib.hid ha
              have Hb := Lib.hid hb
              have Hd := Lib.hid hd
              clear hm hm2 ha hb hd hst
              go_wp2
              go_quiet ((go_at_call 284; exact Calls.quiet_of (CR'.out _)))
              have e5 : IntKind.i64.wrap ((j : Int) + 1) = (j : Int) + 1 := IntWalk.i64_in _ (by omega)
              have e6 : ((j : Int) + 1).tmod 8 = (m2 : Int) := by rw [Int.tmod_eq_emod_of_nonneg (by omega)]; have := Hmm.out.2; omega
              obtain ⟨X, hX⟩ : ∃ X, X = rot32 (a ^^^ b) (5 + 3 * j) := ⟨_, rfl⟩
              have HX := Lib.hid hX
              rw [← hX]
              clear hX CR' e2 e3 e4 hxo cb
              obtain ⟨wq, hwq⟩ : ∃ wq, wq = wr.drewN nq := ⟨_, rfl⟩
              have P3 : Hid (Blk wq p 263 (u32s st ++ rest).toArray) := Lib.hid (by rw [hwq]; exact P2.out.drewN nq)
              have G3 : Hid (Blk wq g 263 (u32s W ++ rest2).toArray) := Lib.hid (by rw [hwq]; exact G2.out.drewN nq)
              have F3 : Hid (Fr (fun k => k = p) w wq) := Lib.hid (by rw [hwq]; exact F2.out.drewN nq)
              have da : wq.cell? ⟨p, j, none⟩ = some (U32 a) := by rw [hwq]; exact ca
              have dd : wq.cell? ⟨p, m2, none⟩ = some (U32 d) := by rw [hwq]; exact cd
              have df := P3.out.frozen
              rw [← hwq]
              clear hwq ca cd
              go_wp2
              go_roundw
              case rel =>
                have h1 := P3.out.set_ j (U32 ((X + d * 2246822507 + (j + r)) % 4294967296))
                have h2 := u32s_set st j ((X + d * 2246822507 + (j + r)) % 4294967296) rest
                rw [if_pos (by rw [hsl]; exact hlt2)] at h2
                rw [h2] at h1
                have h3 : st.set j ((X + d * 2246822507 + (j + r)) % 4294967296) = stepsW W s (8 * r + (j + 1)) := by
                  show _ = stepW W ((8 * r + j) / 8) ((8 * r + j) % 8) (stepsW W s (8 * r + j))
                  rw [← Hst.out]
                  unfold stepW
                  rw [show (8 * r + j) / 8 = r by omega, show (8 * r + j) % 8 = j by omega, HX.out, Ha.out, Hb.out, Hd.out, Hmm.out.1, Hmm.out.2]
                rw [h3] at h1
                have em : ((X : Int) + (d : Int) * 2246822507 + ((j : Int) + (r : Int))) % 4294967296 = (((X + d * 2246822507 + (j + r)) % 4294967296 : Nat) : Int) := by omega
                rw [em]
                exact ⟨j + 1, hlt2, by go_num, Lib.hid (G3.out.far (by exact Hgp.out) _), Lib.hid h1, Lib.hid (F3.out.setCell (p := ⟨p, j, none⟩) rfl _)⟩
              case measure => simp [intOf]; omega
            · obtain rfl : j = 8 := by omega
              go_wp2
              go_roundw
              case rel => exact ⟨r + 1, hlt, by go_num, G2, Lib.hid (by have := P2.out; rwa [show 8 * r + 8 = 8 * (r + 1) by omega] at this), F2⟩
              case measure => simp [intOf]; omega
        · obtain rfl : r = 8 := by omega
          go_wp2
          go_end0
          exact ⟨rfl, ⟨_, P1.out, by rw [stepsW_len]; exact Hs.out, stepsW_lt HL.out _⟩, F1.out⟩
end Go.Proofs.YtphnfcgdpdimbaaGreatDoor

/-
  dolmenref01.Sum: it answers some text. Condition: the content can be read, and is no longer than 1100000.
-/
namespace Go.Proofs.YtphnfcgdpdimbaaGreatDoor
open Go.RowKit

def rs29Phi (p i k9 co gg9 c5 cs9 : Nat) (Ao A5 : Option Addr) (x v1 v2 v3 r0 r1 r2 : Nat) (c0 c1 c2 c3 : UInt8) : Nat → Value → World → Prop
  | 0, v, _ => v = .slice Ao k9 co
  | 1, v, _ => v = .slice (some ⟨p, 0, none⟩) 8 cs9
  | 2, v, _ => v = I ((i : Int))
  | 3, v, _ => v = .pointer (some ⟨p, i, none⟩)
  | 4, v, _ => v = U32 x
  | 5, v, _ => v = U32 r0
  | 6, v, _ => v = U8 c0
  | 7, v, _ => v = .slice (some ⟨p, 0, none⟩) 8 cs9
  | 8, v, _ => v = I ((i : Int))
  | 9, v, _ => v = .pointer (some ⟨p, i, none⟩)
  | 10, v, _ => v = U32 x
  | 11, v, _ => v = U32 v1
  | 12, v, _ => v = U32 r1
  | 13, v, _ => v = U8 c1
  | 14, v, _ => v = .slice (some ⟨p, 0, none⟩) 8 cs9
  | 15, v, _ => v = I ((i : Int))
  | 16, v, _ => v = .pointer (some ⟨p, i, none⟩)
  | 17, v, _ => v = U32 x
  | 18, v, _ => v = U32 v2
  | 19, v, _ => v = U32 r2
  | 20, v, _ => v = U8 c2
  | 21, v, _ => v = .slice (some ⟨p, 0, none⟩) 8 cs9
  | 22, v, _ => v = I ((i : Int))
  | 23, v, _ => v = .pointer (some ⟨p, i, none⟩)
  | 24, v, _ => v = U32 x
  | 25, v, _ => v = U32 v3
  | 26, v, _ => v = U8 c3
  | 27, v, _ => v = .slice (some ⟨gg9, 0, none⟩) 4 4
  | 28, v, _ => v = .slice A5 (k9 + 4) c5
  | _, _, _ => True
def slLen : Value → Nat
  | .slice _ n _ => n
  | _ => 0
theorem sl_byte (w : World) (t : TypeId) (x : UInt8) : Sl (w.alloc (.cells #[U8 x] t)) 1 (some ⟨w.heap.size, 0, none⟩) 1 (u8s [x]) := sl_one w t (U8 x)
theorem wrap8_both (z : Int) (x : UInt8) (h : z = (x.toNat : Int)) (hz : 0 ≤ z) : IntKind.u8.wrap z = (x.toNat : Int) ∧ z % 256 = (x.toNat : Int) := by
  have hx := x.toNat_lt
  subst h
  refine ⟨?_, by omega⟩
  show ((x.toNat : Int) % 256) = _
  omega
theorem sl_four (w : World) (t : TypeId) (a b c d : UInt8) : Sl (w.alloc (.cells #[U8 a, U8 b, U8 c, U8 d] t)) 1 (some ⟨w.heap.size, 0, none⟩) 4 (u8s [a, b, c, d]) := by
  refine ⟨rfl, fun _ => ⟨_, _, rfl, by simp, fun k hk => ?_⟩⟩
  rw [Nat.zero_add]
  simp [u8s]
theorem u8s_two (a b : List UInt8) : u8s (a ++ b) = u8s a ++ u8s b := by simp [u8s]
set_option maxRecDepth 100000 in
set_option maxHeartbeats 8000000 in
theorem rsum_any (A : Option Addr) (n c : Nat) (l : List UInt8) (w : World) (hA : Sl w 1 A n (u8s l)) (hn : n ≤ 1100000) :
    Calls Tryz.prog 161 #[.slice A n c] w fun e w' => ∃ id : List UInt8, e = .returned (S id) ∧ Below w.heap.size w w' := by
  obtain ⟨i0, hi0, hz0, hz1, hz2⟩ := info_parts Tryz.infoU8
  obtain ⟨j0, hj0, hy0, hy1, hy2⟩ := info_parts Tryz.infoU32
  have HA := Lib.hid hA
  clear hA
  have q1 : 0 + n ≤ maxLen := by simp only [maxLen]; omega
  have q2 : (0 + n) * 1 ≤ 140737488355328 := by omega
  have q3 : 0 + n + 1 ≤ maxLen := by simp only [maxLen]; omega
  have q4 : (0 + n + 1) * 1 ≤ 140737488355328 := by omega
  go_enter Tryz.func161, Tryz.ntmps161
  go_wp2_with (first
    | (at_builtin; refine wpList_append_sl _ rfl (.tmp 12) (.tmp 13) _ rfl w 5 i0 _ 1 1 Tryz.underlying27 hi0 hz0 hz1 hz2 rfl Nat.one_pos none 0 0 [] rfl (Ow.nil_ (Below.refl _ w)) A n c (u8s l) rfl HA.out (one_u8s l) q1 q2 ?_; intro A1 c1 w1 hO1 hg1 hat1; have HO1 := Lib.hid (hO1.alloc (.cells #[U8 1] 5)); clear hO1 hg1 hat1)
    | (at_builtin; refine wpList_append_sl _ rfl (.tmp 15) (.tmp 16) _ rfl w 5 i0 _ 1 1 Tryz.underlying27 hi0 hz0 hz1 hz2 rfl Nat.one_pos A1 (0 + n) c1 _ (by rw [Nat.zero_add]; rfl) HO1.out _ 1 _ (u8s [1]) rfl (sl_byte w1 5 1) (one_u8s _) q3 q4 ?_; intro A2 c2 w2 hO2 hg2 hat2; have HO2 : Hid (Ow w w2 5 1 A2 (n + 1) c2 (u8s (l ++ [1]))) := Lib.hid (by rw [u8s_two]; simpa using hO2); clear hO2 hg2 hat2))
  obtain ⟨K0, hK0⟩ : ∃ K0, K0 = (n + 1) + (56 - (n + 1) % 32) % 32 := ⟨_, rfl⟩
  have hKm : K0 % 32 = 24 ∧ K0 ≤ 1200000 := by omega
  obtain ⟨hKm, hKl⟩ := hKm
  have HK0 := Lib.hid hK0
  clear hK0
  go_loopw [3] (fun v wr => ∃ (k cA : Nat) (Aa : Option Addr) (bs : List UInt8), v = .slice Aa k cA ∧ k + (56 - k % 32) % 32 = K0 ∧ Hid (Ow w wr 5 1 Aa k cA (u8s bs))) (fun v _ => (56 - slLen v % 32) % 32)
  case atStart => exact ⟨n + 1, c2, A2, _, by simp, HK0.out.symm, HO2⟩
  case round =>
    obtain ⟨k, cA, Aa, bs, rfl, hk, hO⟩ := hrel
    obtain ⟨m, hm⟩ : ∃ m, m = k % 32 := ⟨_, rfl⟩
    have e1 : (k : Int).tmod 32 = (m : Int) := by rw [Int.tmod_eq_emod_of_nonneg (by omega)]; omega
    by_cases hgo : m = 24
    · have d1 : ((m : Int) != 24) = false := by rw [hgo]; rfl
      obtain rfl : k = K0 := by omega
      clear hm hgo hk
      go_wp2
      go_loopw [3, 4, 5] (fun v x iv wr => ∃ (j cA y : Nat) (Aa : Option Addr) (bs : List UInt8), j ≤ 8 ∧ v = .slice Aa (k + j) cA ∧ x = .int .u64 y ∧ iv = .int .i64 j ∧ Hid (y < 18446744073709551616) ∧ Hid (Ow w wr 5 1 Aa (k + j) cA (u8s bs))) (fun _ _ iv _ => 8 - (intOf iv).toNat)
      case atStart => exact ⟨0, cA, n, Aa, bs, by omega, rfl, rfl, rfl, Lib.hid (by omega), hO⟩
      case round =>
        obtain ⟨j, cA, y, Aa, bs, hj, rfl, rfl, rfl, hy, hO⟩ := hrel
        by_cases hlt : j < 8
        · have d1 : decide ((j : Int) < 8) = true := decide_eq_true (by omega)
          obtain ⟨b, hb⟩ : ∃ b : UInt8, (y : Int) % 256 = (b.toNat : Int) := ⟨UInt8.ofNat (y % 256), by simp⟩
          have HO6 := Lib.hid (hO.out.alloc (.cells #[U8 b] 5))
          have ew : IntKind.u64.wrap ((y : Int) / 256) = ((y / 256 : Nat) : Int) := wrapN64 (y / 256) (by have := hy.out; omega)
          have HY : Hid (y / 256 < 18446744073709551616) := Lib.hid (by have := hy.out; omega)
          have q5 : k + j + 1 ≤ maxLen := by simp only [maxLen]; omega
          have q6 : (k + j + 1) * 1 ≤ 140737488355328 := by omega
          go_wp2_with (at_builtin; refine wpList_append_sl _ rfl (.tmp 32) (.tmp 36) _ rfl w 5 i0 _ 1 1 Tryz.underlying27 hi0 hz0 hz1 hz2 rfl Nat.one_pos Aa (k + j) cA _ rfl HO6.out _ 1 _ (u8s [b]) rfl (sl_byte wr 5 b) (one_u8s _) q5 q6 ?_; intro A5 c5 w5 hO5 hg5 hat5; have HO5 : Hid (Ow w w5 5 1 A5 (k + j + 1) c5 (u8s (bs ++ [b]))) := Lib.hid (by rw [u8s_two]; exact hO5); clear hO5 hg5 hat5)
          go_roundw
          case rel => exact ⟨j + 1, c5, y / 256, A5, _, hlt, rfl, rfl, by go_num, HY, HO5⟩
          case measure => simp [intOf]; omega
        · obtain rfl : j = 8 := by omega
          obtain ⟨k8, hk8⟩ : ∃ k8, k8 = k + 8 := ⟨_, rfl⟩
          rw [← hk8] at hO
          have hkm : k8 % 32 = 0 ∧ k8 ≤ 1200008 := by omega
          obtain ⟨hkm, hkl⟩ := hkm
          rw [← hk8]
          clear hk8
          go_wp2
          go_loopw [3, 6] (fun v iv wr => ∃ (j cA : Nat) (Aa : Option Addr) (bs : List UInt8), j ≤ 32 ∧ v = .slice Aa (k8 + j) cA ∧ iv = .int .i64 j ∧ Hid (Ow w wr 5 1 Aa (k8 + j) cA (u8s bs))) (fun _ iv _ => 32 - (intOf iv).toNat)
          case atStart => exact ⟨0, cA, Aa, bs, by omega, rfl, rfl, hO⟩
          case round =>
            obtain ⟨j, cA, Aa, bs, hj, rfl, rfl, hO⟩ := hrel
            by_cases hlt : j < 32
            · have d1 : decide ((j : Int) < 32) = true := decide_eq_true (by omega)
              have HO6 := Lib.hid (hO.out.alloc (.cells #[U8 0] 5))
              have q5 : k8 + j + 1 ≤ maxLen := by simp only [maxLen]; omega
              have q6 : (k8 + j + 1) * 1 ≤ 140737488355328 := by omega
              go_wp2_with (at_builtin; refine wpList_append_sl _ rfl (.tmp 44) (.tmp 45) _ rfl w 5 i0 _ 1 1 Tryz.underlying27 hi0 hz0 hz1 hz2 rfl Nat.one_pos Aa (k8 + j) cA _ rfl HO6.out _ 1 _ (u8s [0]) rfl (sl_byte wr 5 0) (one_u8s _) q5 q6 ?_; intro A5 c5 w5 hO5 hg5 hat5; have HO5 : Hid (Ow w w5 5 1 A5 (k8 + j + 1) c5 (u8s (bs ++ [0]))) := Lib.hid (by rw [u8s_two]; exact hO5); clear hO5 hg5 hat5)
              go_roundw
              case rel =>
                (repeat apply Exists.intro)
                exact ⟨⟨j + 1, c5, A5, _, hlt, rfl, by go_num, HO5⟩, rfl⟩
              case measure => simp [intOf]; omega
            · obtain rfl : j = 32 := by omega
              obtain ⟨T, hT⟩ : ∃ T, T = k8 + 32 := ⟨_, rfl⟩
              rw [← hT] at hO
              have hTm : T % 32 = 0 ∧ T ≤ 1200040 ∧ 0 < T := by omega
              obtain ⟨hTm, hTl, hT0⟩ := hTm
              rw [← hT]
              clear hT hkm hkl
              obtain ⟨wa, hwa⟩ : ∃ wa, wa = wr := ⟨_, rfl⟩
              subst hwa
              go_wp2
              go_loopw [7, 8] (fun v iv W => ∃ (j cs9 : Nat) (As : Option Addr) (s : List Nat), j ≤ 8 ∧ v = .slice As j cs9 ∧ iv = .int .i64 j ∧ Hid (s.length = j ∧ ∀ x ∈ s, x < 4294967296) ∧ Hid (Ow wa W 263 1 As j cs9 (u32s s))) (fun _ iv _ => 8 - (intOf iv).toNat)
              case atStart => exact ⟨0, 0, none, [], by omega, rfl, rfl, Lib.hid ⟨rfl, by simp⟩, Lib.hid (Ow.nil_ (Below.refl _ _))⟩
              case round =>
                obtain ⟨j, cs9, As, s, hj, rfl, rfl, hs, hOs⟩ := hrel
                by_cases hlt : j < 8
                · have d1 : decide ((j : Int) < 8) = true := decide_eq_true (by omega)
                  obtain ⟨x, hx⟩ : ∃ x : Nat, x = (j + 1) * 2654435769 % 4294967296 := ⟨_, rfl⟩
                  have hx2 : ((j : Int) + 1) * 2654435769 % 4294967296 = (x : Int) := by omega
                  have hxl : x < 4294967296 := by omega
                  have HX : Hid ((s ++ [x]).length = j + 1 ∧ ∀ y ∈ s ++ [x], y < 4294967296) := Lib.hid ⟨by rw [List.length_append, hs.out.1]; rfl, fun y hy => by
                    rcases List.mem_append.1 hy with h | h
                    · exact hs.out.2 y h
                    · rw [List.mem_singleton.1 h]; exact hxl⟩
                  clear hx
                  have HO6 := Lib.hid (hOs.out.alloc (.cells #[U32 x] 263))
                  have q5 : j + 1 ≤ maxLen := by simp only [maxLen]; omega
                  have q6 : (j + 1) * 4 ≤ 140737488355328 := by omega
                  go_wp2_with (at_builtin; refine wpList_append_sl _ rfl (.tmp 51) (.tmp 56) _ rfl wa 263 j0 _ 1 4 Tryz.underlying312 hj0 hy0 hy1 hy2 rfl Nat.one_pos As j cs9 _ rfl HO6.out _ 1 _ (u32s [x]) rfl (sl_u32 wr 263 x) (one_u32s _) q5 q6 ?_; intro A5 c5 w5 hO5 hg5 hat5; have HO5 : Hid (Ow wa w5 263 1 A5 (j + 1) c5 (u32s (s ++ [x]))) := Lib.hid (by rw [show u32s (s ++ [x]) = u32s s ++ u32s [x] by simp [u32s]]; exact hO5); clear hO5 hg5 hat5)
                  go_roundw
                  case rel =>
                    (repeat apply Exists.intro)
                    exact ⟨⟨j + 1, c5, A5, _, hlt, rfl, by go_num, HX, HO5⟩, rfl⟩
                  case measure => simp [intOf]; omega
                · obtain rfl : j = 8 := by omega
                  obtain ⟨p, hAs, hp0, hp1⟩ := hOs.out.form (by omega)
                  subst hAs
                  obtain ⟨ga, hAa, hga0, hga1⟩ := hO.out.form hT0
                  subst hAa
                  obtain ⟨rest, hG⟩ : ∃ rest, Blk wr p 263 (u32s s ++ rest).toArray := by
                    rcases hOs.out.1.2 with ⟨h, _⟩ | ⟨g', cap, cur, hv, _, hb, _, _, hsz, htk⟩
                    · cases h
                    · injection hv with e1 e2 e3
                      injection e1 with e1
                      injection e1 with e1
                      subst e1
                      refine ⟨cur.toList.drop 8, ?_⟩
                      unfold Blk
                      rw [← show cur.toList.take (8 * 1) = u32s s from htk, List.take_append_drop]
                      simpa using hb
                  have HG := Lib.hid hG
                  have hTc := hO.out.cap.1
                  have HS3 : Hid (SlT (fun _ => True) 5 wr 1 (some ⟨ga, 0, none⟩) T (u8s bs)) := Lib.hid ((hO.out.slT.weak (fun _ _ _ => trivial)).step hOs.out.2)
                  have HBw : Hid (Below w.heap.size w wr) := Lib.hid (bstep hO.out.2 hOs.out.2)
                  have Hp0 : Hid (w.heap.size ≤ p) := Lib.hid (Nat.le_trans hO.out.2.size hp0)
                  obtain ⟨wb, hwb⟩ : ∃ wb, wb = wr := ⟨_, rfl⟩
                  subst hwb
                  clear hG hp0 hp1 hga0 hga1
                  go_wp2
                  go_loopw [9] (fun v W => ∃ (j : Nat) (s : List Nat), 32 * j ≤ T ∧ v = .int .i64 ((32 * j : Nat) : Int) ∧ Hid (Blk W p 263 (u32s s ++ rest).toArray) ∧ Hid (s.length = 8 ∧ ∀ x ∈ s, x < 4294967296) ∧ Hid (Fr (fun k => k = p) wb W)) (fun v _ => T - (intOf v).toNat)
                  case atStart => exact ⟨0, s, by omega, rfl, HG, hs, Lib.hid (Fr.refl _ _)⟩
                  case round =>
                    obtain ⟨j, s1, hj, rfl, hB, hs1, hF⟩ := hrel
                    obtain ⟨a, ha⟩ : ∃ a, a = 32 * j := ⟨_, rfl⟩
                    rw [← ha]
                    by_cases hlt : a < T
                    · have d1 : decide ((a : Int) < (T : Int)) = true := decide_eq_true (by omega)
                      obtain ⟨a2, ha2⟩ : ∃ a2, a2 = a + 32 := ⟨_, rfl⟩
                      have k1 : IntKind.i64.wrap ((a : Int) + 32) = (a2 : Int) := by rw [IntWalk.i64_in _ (by omega)]; omega
                      have kc := fun V : World => run_cut_lh (P := Tryz.prog) V Tryz.underlying27 Tryz.sizeU8 (some ⟨ga, 0, none⟩) T cA .i64 .i64 a a2 (by omega) (by omega)
                      rw [cutA_at _ _ _ _ (by omega), Nat.zero_add, show a2 - a = 32 by omega] at kc
                      have HS4 : Hid (SlT (fun _ => True) 5 wr 1 (some ⟨ga, a, none⟩) 32 (u8s ((bs.drop a).take 32))) := Lib.hid (by
                        have h9 := SlT.keep HS3.out (KeepT.of_fr hF.out (fun k cs fr e => by subst e; exact Blk.type HG.out (by decide) cs fr))
                        have h10 := SlT.mid h9 (i := a) (k := 32) (by omega)
                        rwa [Nat.zero_add] at h10)
                      have CT := Lib.hid (rtake_any wr p cs9 s1 rest (some ⟨ga, a, none⟩) (cA - a) _ hB.out hs1.out.1 hs1.out.2 HS4.out)
                      have HJ : Hid (32 * (j + 1) ≤ T ∧ a2 = 32 * (j + 1) ∧ T - a2 < T - a) := Lib.hid (by omega)
                      clear ha ha2
                      go_wp2_with fail
                      refine CT.out.mono ?_
                      rintro e w5 ⟨rfl, ⟨s2, h5, h6, h7⟩, f5⟩
                      have H5 := Lib.hid h5
                      have H6 := Lib.hid (And.intro h6 h7)
                      have F5 := Lib.hid (hF.out.trans f5)
                      clear h5 h6 h7 f5 CT kc
                      go_wp2
                      go_roundw
                      case rel =>
                        (repeat apply Exists.intro)
                        exact ⟨⟨j + 1, s2, HJ.out.1, by rw [← HJ.out.2.1], H5, H6, F5⟩, rfl⟩
                      case measure => have h9 := HJ.out.2.2; simp [intOf]; omega
                    · obtain rfl : a = T := by omega
                      clear ha hj
                      have HBw2 : Hid (Below w.heap.size w wr) := Lib.hid (HBw.out.trans (hF.out.below HBw.out.size (fun k e => by rw [e]; exact Hp0.out)))
                      obtain ⟨wc, hwc⟩ : ∃ wc, wc = wr := ⟨_, rfl⟩
                      subst hwc
                      go_wp2
                      go_loopw [10, 11] (fun v iv W => ∃ (i k9 co : Nat) (Ao : Option Addr) (ob : List UInt8), i ≤ 8 ∧ k9 = 4 * i ∧ v = .slice Ao k9 co ∧ iv = .int .i64 i ∧ Hid (Ow wc W 5 1 Ao k9 co (u8s ob))) (fun _ iv _ => 8 - (intOf iv).toNat)
                      case atStart => exact ⟨0, 0, 0, none, [], by omega, rfl, rfl, rfl, Lib.hid (Ow.nil_ (Below.refl _ _))⟩
                      case round =>
                        obtain ⟨i, k9, co, Ao, ob, hi, hk9, rfl, rfl, hOo⟩ := hrel
                        by_cases hlt : i < 8
                        · have d1 : decide ((i : Int) < 8) = true := decide_eq_true (by omega)
                          have hi8 : (i : Int) < 8 := by omega
                          obtain ⟨x, hx⟩ : ∃ x, x = s1.getD i 0 := ⟨_, rfl⟩
                          have hxl : x < 4294967296 := by rw [hx]; exact getD_lt hs1.out.2 i
                          have HY : Hid (∀ V, Below wc.heap.size wc V → V.cell? ⟨p, i, none⟩ = some (U32 x)) := Lib.hid (fun V hV => by
                            rw [(hB.out.step hV).cell i, u32s_at (by rw [hs1.out.1]; exact hlt), ← hx])
                          obtain ⟨r0, hr0⟩ : ∃ r0, r0 = x % 256 := ⟨_, rfl⟩
                          obtain ⟨v1, hv1⟩ : ∃ v1, v1 = x / 256 := ⟨_, rfl⟩
                          obtain ⟨r1, hr1⟩ : ∃ r1, r1 = v1 % 256 := ⟨_, rfl⟩
                          obtain ⟨v2, hv2⟩ : ∃ v2, v2 = x / 65536 := ⟨_, rfl⟩
                          obtain ⟨r2, hr2⟩ : ∃ r2, r2 = v2 % 256 := ⟨_, rfl⟩
                          obtain ⟨v3, hv3⟩ : ∃ v3, v3 = x / 16777216 := ⟨_, rfl⟩
                          have ex : ∀ r : Nat, r < 256 → ∃ c : UInt8, (r : Int) = (c.toNat : Int) := fun r hr => ⟨UInt8.ofNat r, by simp; omega⟩
                          obtain ⟨c0, hc0⟩ := ex r0 (by omega)
                          obtain ⟨c1, hc1⟩ := ex r1 (by omega)
                          obtain ⟨c2, hc2⟩ := ex r2 (by omega)
                          obtain ⟨c3, hc3⟩ := ex v3 (by omega)
                          have Kr0 : Hid ((x : Int) % 256 = (r0 : Int) ∧ (x : Int).tmod 256 = (r0 : Int)) := Lib.hid ⟨by omega, by rw [Int.tmod_eq_emod_of_nonneg (by omega)]; omega⟩
                          have Kv1 : Hid (IntKind.u32.wrap ((x : Int) / 256) = (v1 : Int) ∧ (x : Int) / 256 = (v1 : Int)) := Lib.hid ⟨by rw [show (x : Int) / 256 = (v1 : Int) by omega]; exact wrapN32 v1 (by omega), by omega⟩
                          have Kr1 : Hid ((v1 : Int) % 256 = (r1 : Int) ∧ (v1 : Int).tmod 256 = (r1 : Int)) := Lib.hid ⟨by omega, by rw [Int.tmod_eq_emod_of_nonneg (by omega)]; omega⟩
                          have Kv2 : Hid (IntKind.u32.wrap ((x : Int) / 65536) = (v2 : Int) ∧ (x : Int) / 65536 = (v2 : Int)) := Lib.hid ⟨by rw [show (x : Int) / 65536 = (v2 : Int) by omega]; exact wrapN32 v2 (by omega), by omega⟩
                          have Kr2 : Hid ((v2 : Int) % 256 = (r2 : Int) ∧ (v2 : Int).tmod 256 = (r2 : Int)) := Lib.hid ⟨by omega, by rw [Int.tmod_eq_emod_of_nonneg (by omega)]; omega⟩
                          have Kv3 : Hid (IntKind.u32.wrap ((x : Int) / 16777216) = (v3 : Int) ∧ (x : Int) / 16777216 = (v3 : Int)) := Lib.hid ⟨by rw [show (x : Int) / 16777216 = (v3 : Int) by omega]; exact wrapN32 v3 (by omega), by omega⟩
                          have KC0 : Hid (IntKind.u8.wrap (r0 : Int) = (c0.toNat : Int) ∧ (r0 : Int) % 256 = (c0.toNat : Int)) := Lib.hid (wrap8_both _ _ hc0 (by omega))
                          have KC1 : Hid (IntKind.u8.wrap (r1 : Int) = (c1.toNat : Int) ∧ (r1 : Int) % 256 = (c1.toNat : Int)) := Lib.hid (wrap8_both _ _ hc1 (by omega))
                          have KC2 : Hid (IntKind.u8.wrap (r2 : Int) = (c2.toNat : Int) ∧ (r2 : Int) % 256 = (c2.toNat : Int)) := Lib.hid (wrap8_both _ _ hc2 (by omega))
                          have KC3 : Hid (IntKind.u8.wrap (v3 : Int) = (c3.toNat : Int) ∧ (v3 : Int) % 256 = (c3.toNat : Int)) := Lib.hid (wrap8_both _ _ hc3 (by omega))
                          clear hx hr0 hv1 hr1 hv2 hr2 hv3 ex hc0 hc1 hc2 hc3
                          have HK9 := Lib.hid hk9
                          have hkl : k9 ≤ 32 := by omega
                          clear hk9
                          obtain ⟨W, hW⟩ : ∃ W, W = wr := ⟨_, rfl⟩
                          subst hW
                          have HO6 := Lib.hid (hOo.out.drew.alloc (.cells #[U8 c0, U8 c1, U8 c2, U8 c3] 5))
                          have hS6 := sl_four W.drew 5 c0 c1 c2 c3
                          obtain ⟨A5, c5, w5, hrun, hO5, hg5, _⟩ := run_append_sl (P := Tryz.prog) _ wc.heap.size 27 27 5 i0 _ 1 1 Tryz.underlying27 hi0 hz0 hz1 hz2 rfl (by decide) (.slice Ao k9 co) k9 (u8s ob) HO6.out.1 _ 4 4 (u8s [c0, c1, c2, c3]) hS6 (one_u8s _) (by simp only [maxLen]; omega) (by omega) HO6.out.2.size
                          have hb5 : Below wc.heap.size wc w5 := HO6.out.2.grown hg5 HO6.out.2.size (fun k hk => (HO6.out.1.lt k hk).1)
                          have HO5 : Hid (Ow wc w5 5 1 A5 (k9 + 4) c5 (u8s (ob ++ [c0, c1, c2, c3]))) := Lib.hid (by rw [u8s_two]; exact ⟨hO5, hb5⟩)
                          have HBel := Lib.hid (CJ.bel (w0 := wc) (W0 := W.drew) (W1 := W.drew.alloc (.cells #[U8 c0, U8 c1, U8 c2, U8 c3] 5)) (W2 := w5) hOo.out.2.drew HO6.out.2 hb5)
                          have Hrun := Lib.hid hrun
                          clear hS6 hrun hO5 hg5 hb5 HO6
                          obtain ⟨gg9, hgg⟩ : ∃ gg9, gg9 = W.heap.size := ⟨_, rfl⟩
                          have Hg := Lib.hid hgg
                          clear hgg
                          go_wp2
                          refine wp_region_pairR (by kernel_rfl) 29 (by kernel_rfl) ?_ (fun q v => rs29Phi p i k9 co gg9 c5 cs9 Ao A5 x v1 v2 v3 r0 r1 r2 c0 c1 c2 c3 q v W) 27 28 (by kernel_rfl) (fun w w' => w' = w) (fun _ => rfl) (CJ W.drew (W.drew.alloc (.cells #[U8 c0, U8 c1, U8 c2, U8 c3] 5)) w5) CJ.step rfl (fun i9 o hi hi1 hi2 ho a w k' hk hk2 hs hm => ?_) (fun o ho a w hj hs hm => ?_) (fun o ho a w hj hs hm => ?_) (fun o ho a w hj hs hm => ?_)
                          · exact dst_ltC2 (n := 106) (by kernel_rfl)
                          · have y0 := HY.out w (HBel.out k' w hk)
                            exact match i9, hi, ho, hi1, hi2 with
                                | 0, _, ho, _, _ => by
                                    cases ho
                                    rw [if_pos (wanted_none _ rfl)]
                                    refine wp_value (st_move rfl ((hs.keeps (by kernel_rfl)).trans rfl)) ⟨_, rfl, rfl, rfl⟩
                                | 1, _, ho, _, _ => by
                                    cases ho
                                    rw [if_pos (wanted_none _ rfl)]
                                    refine wp_value (st_move rfl ((hs.keeps (by kernel_rfl)).trans rfl)) ⟨_, rfl, rfl, rfl⟩
                                | 2, _, ho, _, _ => by
                                    cases ho
                                    rw [if_pos (wanted_none _ rfl)]
                                    refine wp_value (st_move rfl ((hs.keeps (by kernel_rfl)).trans rfl)) ⟨_, rfl, rfl, rfl⟩
                                | 3, _, ho, _, _ => by
                                    cases ho
                                    rw [if_pos (wanted_none _ rfl)]
                                    have h1 := eval_getD (hm.get 1 76 (by kernel_rfl)); have h2 := eval_getD (hm.get 2 77 (by kernel_rfl)); unfold Oper.wp; simp only [execOp]; go_simp; (first | exact ⟨_, rfl, (rfl)⟩ | exact ⟨_, rfl, (rfl), rfl⟩)
                                | 4, _, ho, _, _ => by
                                    cases ho
                                    rw [if_pos (wanted_none _ rfl)]
                                    have hx := y0; have h1 := eval_getD (hm.get 3 78 (by kernel_rfl)); unfold Oper.wp; simp only [execOp]; go_simp; (first | exact ⟨_, rfl, (rfl)⟩ | exact ⟨_, rfl, (rfl), rfl⟩)
                                | 5, _, ho, _, _ => by
                                    cases ho
                                    rw [if_pos (wanted_none _ rfl)]
                                    have h1 := eval_getD (hm.get 4 79 (by kernel_rfl)); unfold Oper.wp; simp only [execOp]; go_simp; (first | exact ⟨_, rfl, (by first | rfl | (show Value.int _ _ = Value.int _ _; first | rw [Kr0.out.1] | rw [Kr0.out.2]))⟩ | exact ⟨_, rfl, (by first | rfl | (show Value.int _ _ = Value.int _ _; first | rw [Kr0.out.1] | rw [Kr0.out.2])), rfl⟩)
                                | 6, _, ho, _, _ => by
                                    cases ho
                                    rw [if_pos (wanted_none _ rfl)]
                                    have h1 := eval_getD (hm.get 5 80 (by kernel_rfl)); unfold Oper.wp; simp only [execOp]; go_simp; (first | exact ⟨_, rfl, (by first | rfl | (show Value.int _ _ = Value.int _ _; first | rw [KC0.out.1] | rw [KC0.out.2]))⟩ | exact ⟨_, rfl, (by first | rfl | (show Value.int _ _ = Value.int _ _; first | rw [KC0.out.1] | rw [KC0.out.2])), rfl⟩)
                                | 7, _, ho, _, _ => by
                                    cases ho
                                    rw [if_pos (wanted_none _ rfl)]
                                    refine wp_value (st_move rfl ((hs.keeps (by kernel_rfl)).trans rfl)) ⟨_, rfl, rfl, rfl⟩
                                | 8, _, ho, _, _ => by
                                    cases ho
                                    rw [if_pos (wanted_none _ rfl)]
                                    refine wp_value (st_move rfl ((hs.keeps (by kernel_rfl)).trans rfl)) ⟨_, rfl, rfl, rfl⟩
                                | 9, _, ho, _, _ => by
                                    cases ho
                                    rw [if_pos (wanted_none _ rfl)]
                                    have h1 := eval_getD (hm.get 7 82 (by kernel_rfl)); have h2 := eval_getD (hm.get 8 83 (by kernel_rfl)); unfold Oper.wp; simp only [execOp]; go_simp; (first | exact ⟨_, rfl, (rfl)⟩ | exact ⟨_, rfl, (rfl), rfl⟩)
                                | 10, _, ho, _, _ => by
                                    cases ho
                                    rw [if_pos (wanted_none _ rfl)]
                                    have hx := y0; have h1 := eval_getD (hm.get 9 84 (by kernel_rfl)); unfold Oper.wp; simp only [execOp]; go_simp; (first | exact ⟨_, rfl, (rfl)⟩ | exact ⟨_, rfl, (rfl), rfl⟩)
                                | 11, _, ho, _, _ => by
                                    cases ho
                                    rw [if_pos (wanted_none _ rfl)]
                                    have h1 := eval_getD (hm.get 10 85 (by kernel_rfl)); unfold Oper.wp; simp only [execOp]; go_simp; (first | exact ⟨_, rfl, (by first | rfl | (show Value.int _ _ = Value.int _ _; first | rw [Kv1.out.1] | rw [Kv1.out.2]))⟩ | exact ⟨_, rfl, (by first | rfl | (show Value.int _ _ = Value.int _ _; first | rw [Kv1.out.1] | rw [Kv1.out.2])), rfl⟩)
                                | 12, _, ho, _, _ => by
                                    cases ho
                                    rw [if_pos (wanted_none _ rfl)]
                                    have h1 := eval_getD (hm.get 11 86 (by kernel_rfl)); unfold Oper.wp; simp only [execOp]; go_simp; (first | exact ⟨_, rfl, (by first | rfl | (show Value.int _ _ = Value.int _ _; first | rw [Kr1.out.1] | rw [Kr1.out.2]))⟩ | exact ⟨_, rfl, (by first | rfl | (show Value.int _ _ = Value.int _ _; first | rw [Kr1.out.1] | rw [Kr1.out.2])), rfl⟩)
                                | 13, _, ho, _, _ => by
                                    cases ho
                                    rw [if_pos (wanted_none _ rfl)]
                                    have h1 := eval_getD (hm.get 12 87 (by kernel_rfl)); unfold Oper.wp; simp only [execOp]; go_simp; (first | exact ⟨_, rfl, (by first | rfl | (show Value.int _ _ = Value.int _ _; first | rw [KC1.out.1] | rw [KC1.out.2]))⟩ | exact ⟨_, rfl, (by first | rfl | (show Value.int _ _ = Value.int _ _; first | rw [KC1.out.1] | rw [KC1.out.2])), rfl⟩)
                                | 14, _, ho, _, _ => by
                                    cases ho
                                    rw [if_pos (wanted_none _ rfl)]
                                    refine wp_value (st_move rfl ((hs.keeps (by kernel_rfl)).trans rfl)) ⟨_, rfl, rfl, rfl⟩
                                | 15, _, ho, _, _ => by
                                    cases ho
                                    rw [if_pos (wanted_none _ rfl)]
                                    refine wp_value (st_move rfl ((hs.keeps (by kernel_rfl)).trans rfl)) ⟨_, rfl, rfl, rfl⟩
                                | 16, _, ho, _, _ => by
                                    cases ho
                                    rw [if_pos (wanted_none _ rfl)]
                                    have h1 := eval_getD (hm.get 14 89 (by kernel_rfl)); have h2 := eval_getD (hm.get 15 90 (by kernel_rfl)); unfold Oper.wp; simp only [execOp]; go_simp; (first | exact ⟨_, rfl, (rfl)⟩ | exact ⟨_, rfl, (rfl), rfl⟩)
                                | 17, _, ho, _, _ => by
                                    cases ho
                                    rw [if_pos (wanted_none _ rfl)]
                                    have hx := y0; have h1 := eval_getD (hm.get 16 91 (by kernel_rfl)); unfold Oper.wp; simp only [execOp]; go_simp; (first | exact ⟨_, rfl, (rfl)⟩ | exact ⟨_, rfl, (rfl), rfl⟩)
                                | 18, _, ho, _, _ => by
                                    cases ho
                                    rw [if_pos (wanted_none _ rfl)]
                                    have h1 := eval_getD (hm.get 17 92 (by kernel_rfl)); unfold Oper.wp; simp only [execOp]; go_simp; (first | exact ⟨_, rfl, (by first | rfl | (show Value.int _ _ = Value.int _ _; first | rw [Kv2.out.1] | rw [Kv2.out.2]))⟩ | exact ⟨_, rfl, (by first | rfl | (show Value.int _ _ = Value.int _ _; first | rw [Kv2.out.1] | rw [Kv2.out.2])), rfl⟩)
                                | 19, _, ho, _, _ => by
                                    cases ho
                                    rw [if_pos (wanted_none _ rfl)]
                                    have h1 := eval_getD (hm.get 18 93 (by kernel_rfl)); unfold Oper.wp; simp only [execOp]; go_simp; (first | exact ⟨_, rfl, (by first | rfl | (show Value.int _ _ = Value.int _ _; first | rw [Kr2.out.1] | rw [Kr2.out.2]))⟩ | exact ⟨_, rfl, (by first | rfl | (show Value.int _ _ = Value.int _ _; first | rw [Kr2.out.1] | rw [Kr2.out.2])), rfl⟩)
                                | 20, _, ho, _, _ => by
                                    cases ho
                                    rw [if_pos (wanted_none _ rfl)]
                                    have h1 := eval_getD (hm.get 19 94 (by kernel_rfl)); unfold Oper.wp; simp only [execOp]; go_simp; (first | exact ⟨_, rfl, (by first | rfl | (show Value.int _ _ = Value.int _ _; first | rw [KC2.out.1] | rw [KC2.out.2]))⟩ | exact ⟨_, rfl, (by first | rfl | (show Value.int _ _ = Value.int _ _; first | rw [KC2.out.1] | rw [KC2.out.2])), rfl⟩)
                                | 21, _, ho, _, _ => by
                                    cases ho
                                    rw [if_pos (wanted_none _ rfl)]
                                    refine wp_value (st_move rfl ((hs.keeps (by kernel_rfl)).trans rfl)) ⟨_, rfl, rfl, rfl⟩
                                | 22, _, ho, _, _ => by
                                    cases ho
                                    rw [if_pos (wanted_none _ rfl)]
                                    refine wp_value (st_move rfl ((hs.keeps (by kernel_rfl)).trans rfl)) ⟨_, rfl, rfl, rfl⟩
                                | 23, _, ho, _, _ => by
                                    cases ho
                                    rw [if_pos (wanted_none _ rfl)]
                                    have h1 := eval_getD (hm.get 21 96 (by kernel_rfl)); have h2 := eval_getD (hm.get 22 97 (by kernel_rfl)); unfold Oper.wp; simp only [execOp]; go_simp; (first | exact ⟨_, rfl, (rfl)⟩ | exact ⟨_, rfl, (rfl), rfl⟩)
                                | 24, _, ho, _, _ => by
                                    cases ho
                                    rw [if_pos (wanted_none _ rfl)]
                                    have hx := y0; have h1 := eval_getD (hm.get 23 98 (by kernel_rfl)); unfold Oper.wp; simp only [execOp]; go_simp; (first | exact ⟨_, rfl, (rfl)⟩ | exact ⟨_, rfl, (rfl), rfl⟩)
                                | 25, _, ho, _, _ => by
                                    cases ho
                                    rw [if_pos (wanted_none _ rfl)]
                                    have h1 := eval_getD (hm.get 24 99 (by kernel_rfl)); unfold Oper.wp; simp only [execOp]; go_simp; (first | exact ⟨_, rfl, (by first | rfl | (show Value.int _ _ = Value.int _ _; first | rw [Kv3.out.1] | rw [Kv3.out.2]))⟩ | exact ⟨_, rfl, (by first | rfl | (show Value.int _ _ = Value.int _ _; first | rw [Kv3.out.1] | rw [Kv3.out.2])), rfl⟩)
                                | 26, _, ho, _, _ => by
                                    cases ho
                                    rw [if_pos (wanted_none _ rfl)]
                                    have h1 := eval_getD (hm.get 25 100 (by kernel_rfl)); unfold Oper.wp; simp only [execOp]; go_simp; (first | exact ⟨_, rfl, (by first | rfl | (show Value.int _ _ = Value.int _ _; first | rw [KC3.out.1] | rw [KC3.out.2]))⟩ | exact ⟨_, rfl, (by first | rfl | (show Value.int _ _ = Value.int _ _; first | rw [KC3.out.1] | rw [KC3.out.2])), rfl⟩)
                                | 27, _, _, h, _ => absurd rfl h
                                | 28, _, _, _, h => absurd rfl h
                                | (n + 29), hi, _, _, _ => absurd hi (by omega)

                          · cases ho
                            obtain rfl : w = W.drew := hj
                            have h1 := eval_getD (hm.get 6 81 (by kernel_rfl))
                            have h2 := eval_getD (hm.get 13 88 (by kernel_rfl))
                            have h3 := eval_getD (hm.get 20 95 (by kernel_rfl))
                            have h4 := eval_getD (hm.get 26 101 (by kernel_rfl))
                            unfold Oper.wp
                            simp only [execOp]
                            go_simp
                            exact ⟨_, rfl, show Value.slice _ _ _ = Value.slice _ _ _ by rw [Hg.out], rfl⟩
                          · have hj1 : w = W.drew.alloc (.cells #[U8 c0, U8 c1, U8 c2, U8 c3] 5) := hj
                            subst hj1
                            obtain ⟨h1, h2, h3, h4, h5⟩ : a.eval (.tmp 75) = .slice Ao k9 co ∧ a.eval (.tmp 102) = .slice (some ⟨gg9, 0, none⟩) 4 4 ∧ o.op = .call { callee := .builtin .append, args := #[.tmp 75, .tmp 102], argTypes := #[27, 27] } ∧ o.dst = some 103 ∧ o.type = 27 := by
                              cases ho
                              exact ⟨hm.get 0 75 (by kernel_rfl), hm.get 27 102 (by kernel_rfl), rfl, rfl, rfl⟩
                            rw [Hg.out] at h2
                            have hr := Hrun.out
                            simp only [World.size_drew] at hr
                            unfold Oper.wp execOp
                            simp only [h3, h5, resolve, invoke, builtin, Sem.run_bind, Sem.run_pure, Result.andThen_ok, List.map_toArray, List.map_cons, List.map_nil, h1, h2, hr]
                            exact ⟨_, rfl, rfl, rfl⟩
                          · have e1 : a.eval (.tmp 103) = .slice A5 (k9 + 4) c5 := by cases ho; exact hm.get 28 103 (by kernel_rfl)
                            have hfr := hs.frame [75, 76, 77, 78, 79, 80, 81, 82, 83, 84, 85, 86, 87, 88, 89, 90, 91, 92, 93, 94, 95, 96, 97, 98, 99, 100, 101, 102, 103] (by kernel_rfl)
                            cases ho
                            obtain rfl : w = w5 := hj
                            rw [hfr]
                            simp only [List.foldl_cons, List.foldl_nil, e1]
                            clear hfr hs hm e1
                            generalize a.eval (.tmp 75) = u75
                            generalize a.eval (.tmp 76) = u76
                            generalize a.eval (.tmp 77) = u77
                            generalize a.eval (.tmp 78) = u78
                            generalize a.eval (.tmp 79) = u79
                            generalize a.eval (.tmp 80) = u80
                            generalize a.eval (.tmp 81) = u81
                            generalize a.eval (.tmp 82) = u82
                            generalize a.eval (.tmp 83) = u83
                            generalize a.eval (.tmp 84) = u84
                            generalize a.eval (.tmp 85) = u85
                            generalize a.eval (.tmp 86) = u86
                            generalize a.eval (.tmp 87) = u87
                            generalize a.eval (.tmp 88) = u88
                            generalize a.eval (.tmp 89) = u89
                            generalize a.eval (.tmp 90) = u90
                            generalize a.eval (.tmp 91) = u91
                            generalize a.eval (.tmp 92) = u92
                            generalize a.eval (.tmp 93) = u93
                            generalize a.eval (.tmp 94) = u94
                            generalize a.eval (.tmp 95) = u95
                            generalize a.eval (.tmp 96) = u96
                            generalize a.eval (.tmp 97) = u97
                            generalize a.eval (.tmp 98) = u98
                            generalize a.eval (.tmp 99) = u99
                            generalize a.eval (.tmp 100) = u100
                            generalize a.eval (.tmp 101) = u101
                            generalize a.eval (.tmp 102) = u102
                            unfold Oper.wp
                            simp only [execOp]
                            go_simp
                            clear a
                            go_wp2
                            go_roundw
                            case rel =>
                              (repeat apply Exists.intro)
                              exact ⟨⟨i + 1, k9 + 4, c5, A5, _, hlt, by have := HK9.out; omega, rfl, by go_num, HO5⟩, rfl⟩
                            case measure => simp [intOf]; omega
                        · obtain rfl : i = 8 := by omega
                          clear hk9
                          have hcv := run_conv_str (P := Tryz.prog) wr 27 9 5 Ao k9 co _ Tryz.underlying27 Tryz.underlying5 Tryz.underlying9 hOo.out.sl
                          go_wp2
                          go_ret
                          exact ⟨ob, rfl, bstep HBw2.out hOo.out.2⟩
    · have d1 : ((m : Int) != 24) = true := by rw [bne_iff_ne]; omega
      have q5 : k + 1 ≤ maxLen := by simp only [maxLen]; omega
      have q6 : (k + 1) * 1 ≤ 140737488355328 := by omega
      have hk9 : k + 1 + (56 - (k + 1) % 32) % 32 = K0 := by omega
      have hms : (56 - (k + 1) % 32) % 32 < (56 - k % 32) % 32 := by omega
      have HO6 := Lib.hid (hO.out.alloc (.cells #[U8 0] 5))
      clear hm hgo hk
      go_wp2_with (at_builtin; refine wpList_append_sl _ rfl (.tmp 22) (.tmp 23) _ rfl w 5 i0 _ 1 1 Tryz.underlying27 hi0 hz0 hz1 hz2 rfl Nat.one_pos Aa k cA _ rfl HO6.out _ 1 _ (u8s [0]) rfl (sl_byte wr 5 0) (one_u8s _) q5 q6 ?_; intro A5 c5 w5 hO5 hg5 hat5; have HO5 : Hid (Ow w w5 5 1 A5 (k + 1) c5 (u8s (bs ++ [0]))) := Lib.hid (by rw [u8s_two]; exact hO5); clear hO5 hg5 hat5)
      go_roundw
      case rel => exact ⟨k + 1, c5, A5, _, rfl, hk9, HO5⟩
      case measure => simp only [slLen]; omega
end Go.Proofs.YtphnfcgdpdimbaaGreatDoor

/-
  dolmenref20.Id: it answers some text. Condition: the content can be read, and is no longer than 1048576.
-/
namespace Go.Proofs.YtphnfcgdpdimbaaGreatDoor
open Go.RowKit

set_option maxRecDepth 100000 in
set_option maxHeartbeats 4000000 in
theorem rbare_blob (A : Option Addr) (n c : Nat) (w : World) :
    Calls Tryz.prog 264 #[.agg (blobA A n c), .bool false, .bool true, .bool true, .bool true, .bool true] w fun e w' => e = .returned (.bool true) ∧ Below w.heap.size w w' := by
  have rc := (Blk.new w 110 (blobA A n c)).cell
  go_enter Tryz.func264, Tryz.ntmps264
  go_wp2
  go_ret
  exact ⟨rfl, balloc (Below.refl _ w) _⟩
set_option maxRecDepth 100000 in
set_option maxHeartbeats 4000000 in
theorem rcheck_blob (A : Option Addr) (n c : Nat) (w : World) (hn : n ≤ 1048576) :
    Calls Tryz.prog 210 #[.agg (blobA A n c)] w fun e w' => e = .returned (I 0) ∧ Below w.heap.size w w' := by
  have rc := (Blk.new w 110 (blobA A n c)).cell
  have d1 : decide ((n : Int) ≤ 1048576) = true := decide_eq_true (by omega)
  have CB := Lib.hid (rbare_blob A n c (w.alloc (.cells (blobA A n c) 110)))
  go_enter Tryz.func210, Tryz.ntmps210
  go_wp2_with fail
  refine CB.out.mono ?_
  rintro e w1 ⟨rfl, b1⟩
  have B1 := Lib.hid (bstep (balloc (Below.refl _ w) _) b1)
  clear b1 CB
  go_wp2
  go_ret
  exact ⟨rfl, B1.out⟩
set_option maxRecDepth 100000 in
set_option maxHeartbeats 4000000 in
theorem rencode_blob (A : Option Addr) (n c : Nat) (l : List UInt8) (w : World) (hA : Sl w 1 A n (u8s l)) (hn : n ≤ 1048576) :
    Calls Tryz.prog 130 #[.agg (blobA A n c)] w fun e w' => ∃ (A' : Option Addr) (c' : Nat), e = .returned (.tuple #[.slice A' (n + 1) c', I 0]) ∧ Ow w w' 5 1 A' (n + 1) c' (u8s ([1] ++ l)) := by
  obtain ⟨i0, hi0, hz0, hz1, hz2⟩ := info_parts Tryz.infoU8
  have hB := Blk.new w 110 (blobA A n c)
  have HB := Lib.hid hB
  have rc := hB.cell
  have HA := Lib.hid hA
  have CC := Lib.hid (rcheck_blob A n c (w.alloc (.cells (blobA A n c) 110)) hn)
  have q1 : 1 + n ≤ maxLen := by simp only [maxLen]; omega
  have q2 : (1 + n) * 1 ≤ 140737488355328 := by omega
  clear hB hA
  go_enter Tryz.func130, Tryz.ntmps130
  go_wp2_with fail
  refine CC.out.mono ?_
  rintro e w1 ⟨rfl, b1⟩
  have B1 := Lib.hid (bstep (balloc (Below.refl _ w) _) b1)
  have r1 := (HB.out.step b1).cell
  have HB1 := Lib.hid (HB.out.step b1)
  have r2 := (HB1.out.alloc (.cells #[.int .u8 1] 5)).cell
  have HO : Hid (Ow w (w1.alloc (.cells #[U8 1] 5)) 5 1 (some ⟨w1.heap.size, 0, none⟩) 1 1 (u8s [1])) := Lib.hid ⟨⟨rfl, .inr ⟨w1.heap.size, 1, #[U8 1], rfl, B1.out.size, heap_alloc_new w1 _, Nat.le_refl _, by decide, rfl, rfl⟩⟩, balloc B1.out _⟩
  have HA1 := Lib.hid ((HA.out.below B1.out).alloc (.cells #[U8 1] 5))
  clear b1 CC rc
  go_wp2_with (at_builtin; refine wpList_append_sl _ rfl (.tmp 37) (.tmp 39) _ rfl w 5 i0 _ 1 1 Tryz.underlying27 hi0 hz0 hz1 hz2 rfl Nat.one_pos (some ⟨w1.heap.size, 0, none⟩) 1 1 _ rfl HO.out A n c (u8s l) rfl HA1.out (one_u8s l) q1 q2 ?_; intro A5 c5 w5 hO5 hg5 hat5; have HO5 : Hid (Ow w w5 5 1 A5 (n + 1) c5 (u8s ([1] ++ l))) := Lib.hid (by rw [u8s_two, Nat.add_comm n 1]; exact hO5); rw [Nat.add_comm 1 n]; clear hO5 hg5 hat5)
  go_ret2
  exact ⟨A5, c5, rfl, HO5.out⟩
set_option maxRecDepth 100000 in
theorem rid06_blob (A : Option Addr) (n c : Nat) (l : List UInt8) (w : World) (hA : Sl w 1 A n (u8s l)) (hn : n ≤ 1048576) :
    Calls Tryz.prog 93 #[.agg (blobA A n c)] w fun e w' => ∃ id : List UInt8, e = .returned (.tuple #[S id, I 0]) ∧ Below w.heap.size w w' := by
  have rc := (Blk.new w 110 (blobA A n c)).cell
  have CE := Lib.hid (rencode_blob A n c l (w.alloc (.cells (blobA A n c) 110)) (hA.alloc _) hn)
  clear hA
  go_enter Tryz.func93, Tryz.ntmps93
  go_wp2_with fail
  refine CE.out.mono ?_
  rintro e w1 ⟨A1, c1, rfl, hO⟩
  have B1 := Lib.hid (bstep (balloc (Below.refl _ w) _) hO.2)
  have CS := Lib.hid (rsum_any A1 (n + 1) c1 _ w1 hO.sl (by omega))
  clear hO CE
  go_wp2_with fail
  refine CS.out.mono ?_
  rintro e w2 ⟨id, rfl, b2⟩
  have B2 := Lib.hid (bstep B1.out b2)
  clear b2 CS
  go_wp2
  go_ret2
  exact ⟨id, rfl, B2.out⟩
set_option maxRecDepth 100000 in
theorem rid20_any (A : Option Addr) (n c : Nat) (l : List UInt8) (w : World) (hA : Sl w 1 A n (u8s l)) (hn : n ≤ 1048576) :
    Calls Tryz.prog 35 #[.slice A n c] w fun e w' => ∃ id : List UInt8, e = .returned (S id) ∧ Below w.heap.size w w' := by
  have CI := Lib.hid (rid06_blob A n c l w hA hn)
  clear hA
  go_enter Tryz.func35, Tryz.ntmps35
  go_wp2_with fail
  refine CI.out.mono ?_
  rintro e w1 ⟨id, rfl, b1⟩
  have B1 := Lib.hid b1
  clear b1 CI
  go_wp2
  go_ret
  exact ⟨id, rfl, B1.out⟩
end Go.Proofs.YtphnfcgdpdimbaaGreatDoor

/-
  Texts merged: ChainG, RefTurn, RefTake, RefSum. What each law says and asks stands at its head.
-/
import Derived.Test.YtcednfmkiaelnaaGreatDoorTKitX
import Derived.Test.YtcednfmkiaelnaaGreatDoorTKitSu
import Derived.Test.YtcednfmkiaelnaaGreatDoorTDiskNew
import Derived.IntWalk
import Derived.BigQuiet
import Derived.Test.YtcednfmkiaelnaaGreatDoorTKitOw
import Derived.Test.YtcednfmkiaelnaaGreatDoorTKitDk
namespace Go.Proofs.YtcednfmkiaelnaaGreatDoor
open Go.RowKit
def chainOkG (ops : Array Oper) (n : Nat) (C : List Nat) : Bool :=
 C.all (fun i => decide (i < n)) && decide C.Nodup &&
 (List.range C.length).all (fun s => match C[s]?, C[s + 1]? with | some i, some j => reachIn ops (n + 1) j i | _, _ => true)
theorem wp_region_chainG {P : Program} {ops : Array Oper} {Q : Exit → Act → World → Prop} {id : Nat} {a0 : Act} {w0 : World} (hm : P.follows .mixedOrders = true) (n : Nat) (hok : regionOk2 ops n = true)
  (hsz : ∀ (i : Nat) (o : Oper) (d : Nat), ops[i]? = some o → o.dst = some d → d < a0.tmps.size)
  (C : List Nat) (hC : chainOkG ops n C = true) (Rel : World → World → Prop) (hRel : ∀ w w', Below w.heap.size w w' → Rel w w')
  (φ : Nat → Value → World → Prop) (hmono : ∀ j v w w', φ j v w → Rel w w' → φ j v w')
  (J : Nat → Value → World → Prop) (hJ : ∀ k u w w', J k u w → Below w.heap.size w w' → J k u w') (h0 : ∃ u, J 0 u w0.drew)
  (hstep : ∀ (i : Nat) (o : Oper), i < n → i ∉ C → ops[i]? = some o → ∀ a w k u, J k u w → SameAct (ops.extract 0 n) a0 a → Met ops φ o a w →
   if Region.wanted o (yielded ops a.tmps) = true then Oper.wp P o a w (fun a' w' => ∃ v, a' = a.put o.dst v ∧ φ i v w' ∧ Below w.heap.size w w') Q else φ i undef w)
  (hchain : ∀ (s i : Nat) (o : Oper), C[s]? = some i → ops[i]? = some o → ∀ a w u, J s u w → SameAct (ops.extract 0 n) a0 a → Met ops φ o a w → Region.wanted o (yielded ops a.tmps) = true ∧ Oper.wp P o a w (fun a' w' => ∃ v, a' = a.put o.dst v ∧ φ i v w' ∧ J (s + 1) v w' ∧ Rel w w') Q)
  (hlast : ∀ (o : Oper), ops[n]? = some o → ∀ a w u, J C.length u w → (∀ (t i d : Nat) (o : Oper), C.length = t + 1 → C[t]? = some i → ops[i]? = some o → o.dst = some d → a.eval (.tmp d) = u) → SameAct (ops.extract 0 n) a0 a → Met ops φ o a w → Oper.wp P o a w (fun a' w' => Q .normal a' w') Q) :
  (Code.region id ops true).wp P Q a0 w0 := by
 have hok' := hok
 simp only [regionOk2, Bool.and_eq_true, beq_iff_eq, List.all_eq_true, List.mem_range] at hok'
 obtain ⟨⟨hn, hop⟩, hcov⟩ := hok'
 have hback : ∀ (i : Nat) (o : Oper), ops[i]? = some o → (i = n → o.guard = none) ∧ (∀ e ∈ o.after, e.on < i) ∧ ∀ (j : Nat) (p : Oper) (x : Nat), j < i → ops[j]? = some p → p.dst = some x → o.dst ≠ some x := by
  intro i o ho
  have hlt := (Array.getElem?_eq_some_iff.1 ho).1
  have h1 := hop i (by omega)
  rw [ho] at h1
  simp only [Bool.and_eq_true, List.all_eq_true, List.mem_range] at h1
  obtain ⟨⟨h2, h3⟩, h4⟩ := h1
  refine ⟨fun hi => by
   cases hg : o.guard with
   | none => rfl
   | some q => rw [hg] at h2; simp at h2; omega, fun e he => by simpa using Array.all_eq_true_iff_forall_mem.1 h3 e he, fun j p x hj hp hx hd => ?_⟩
  have h5 := h4 j hj
  rw [hp] at h5
  simp only [hx, hd] at h5
  simp at h5
 have hdst : ∀ (i j : Nat) (o p : Oper) (x : Nat), i ≠ j → ops[i]? = some o → ops[j]? = some p → o.dst = some x → p.dst ≠ some x := by
  intro i j o p x hne ho hp hx hpx
  rcases Nat.lt_or_gt_of_ne hne with h | h
  ·exact (hback j p hp).2.2 i o x h ho hx hpx
  ·exact (hback i o ho).2.2 j p x h hp hpx hx
 simp only [chainOkG, Bool.and_eq_true, List.all_eq_true, decide_eq_true_eq, List.mem_range] at hC
 obtain ⟨⟨hC1, hnd⟩, hC2⟩ := hC
 have hCn : ∀ (t i : Nat), C[t]? = some i → i < n := fun t i h => hC1 i (List.mem_of_getElem? h)
 have hinj : ∀ (s t i : Nat), C[s]? = some i → C[t]? = some i → s = t := fun s t i h1 h2 => by
  obtain ⟨a1, b1⟩ := List.getElem?_eq_some_iff.1 h1
  obtain ⟨a2, b2⟩ := List.getElem?_eq_some_iff.1 h2
  have h3 := List.pairwise_iff_getElem.1 hnd
  rcases Nat.lt_trichotomy s t with h | h | h
  ·exact absurd (b1.trans b2.symm) (h3 s t a1 a2 h)
  ·exact h
  ·exact absurd (b2.trans b1.symm) (h3 t s a2 a1 h)
 have hex : ∀ (i : Nat) (o : Oper), i < n → ops[i]? = some o → (ops.extract 0 n)[i]? = some o := fun i o hi ho => by
  have hlt := (Array.getElem?_eq_some_iff.1 ho).1
  rw [Array.getElem?_extract, if_pos (by omega), Nat.zero_add, ho]
 refine wp_region_any hm ?_
 refine wpAny_inv (fun listed a w => (∀ (i : Nat) (o : Oper), ops[i]? = some o → listed[i]? = some true → ∀ e ∈ o.after, Region.binds .any e = true → listed[e.on]? = some true) ∧
   (listed[n]? = some false → SameAct (ops.extract 0 n) a0 a ∧ ChainSt J C ops listed a w ∧ ∀ (j : Nat) (p : Oper) (d : Nat), j < n → ops[j]? = some p → p.dst = some d → listed[j]? = some true → φ j (a.eval (.tmp d)) w) ∧
   (listed[n]? = some true → (∀ j, j < n → listed[j]? = some true) ∧ Q .normal a w)) ?_ ?_ ops.size (Array.replicate ops.size false) a0 _ (by simp) ?_ ?_
 ·rintro listed a w i hs ⟨hcl, hun, hfin⟩ hi
  obtain ⟨o, ho, hl, haft⟩ := ready_parts hs hi
  have hlt := (Array.getElem?_eq_some_iff.1 ho).1
  have hnl : listed[n]? = some false := by
   cases hb : listed[n]? with
   | none => rw [Array.getElem?_eq_none_iff] at hb; omega
   | some b => cases b with
    | false => rfl
    | true =>
     obtain ⟨h1, _⟩ := hfin hb
     rcases Nat.lt_or_ge i n with h | h
     ·rw [h1 i h] at hl; cases hl
     ·obtain rfl : i = n := by omega
      rw [hb] at hl; cases hl
  obtain ⟨hsame, ⟨s, u, hsl, hJs, hst, hu⟩, hphi⟩ := hun hnl
  have hmet : Met ops φ o a w := by
   intro e he hb p d hp hd
   have hon := (hback i o ho).2.1 e he
   exact hphi e.on p d (by omega) hp hd (haft e he hb)
  have hset : ∀ k, (listed.setIfInBounds i true)[k]? = if i = k then some true else listed[k]? := by
   intro k
   rw [Array.getElem?_setIfInBounds]
   split
   ·rename_i h; subst h; rw [if_pos (by omega)]
   ·rfl
  refine wpOp_step ho (fun K' hK' => ?_)
  have hcl' : ∀ (k : Nat) (p : Oper), ops[k]? = some p → (listed.setIfInBounds i true)[k]? = some true → ∀ e ∈ p.after, Region.binds .any e = true → (listed.setIfInBounds i true)[e.on]? = some true := by
   intro k p hp hk e he hb
   rw [hset] at hk ⊢
   split
   ·rfl
   ·by_cases hik : i = k
    ·subst hik
     obtain rfl : p = o := Option.some.inj (hp.symm.trans ho)
     exact haft e he hb
    ·rw [if_neg hik] at hk
     exact hcl k p hp hk e he hb
  rcases Nat.lt_or_ge i n with hin | hin
  ·have hput : ∀ (v : Value) (d : Nat), o.dst = some d → (a.put o.dst v).eval (.tmp d) = v := by
    intro v d hd
    have hdlt := hsz i o d ho hd
    rw [hd]
    simp [Act.put, Act.eval, Array.getD_eq_getD_getElem?, hsame.size, hdlt]
   have hoth : ∀ (v : Value) (j d : Nat) (p : Oper), i ≠ j → ops[j]? = some p → p.dst = some d → (a.put o.dst v).eval (.tmp d) = a.eval (.tmp d) := by
    intro v j d p hij hp hd
    have hne : o.dst ≠ some d := hdst j i p o d (fun e => hij e.symm) hp ho hd
    cases hod : o.dst with
    | none => rfl
    | some x =>
     have hxd : x ≠ d := fun e => hne (by rw [hod, e])
     simp [Act.put, Act.eval, Array.getD_eq_getD_getElem?, hxd]
   have key : ∀ (v : Value) (w' : World), φ i v w' → ChainSt J C ops (listed.setIfInBounds i true) (a.put o.dst v) w' → Rel w w' → K' (a.put o.dst v) w' := by
    intro v w' hv hst' hr'
    refine hK' _ _ ?_
    refine ⟨hcl', fun _ => ⟨hsame.put (hex i o hin ho) v, hst', fun j p d hj hp hd hlj => ?_⟩, fun hf => ?_⟩
    ·rw [hset] at hlj
     by_cases hij : i = j
     ·subst hij
      obtain rfl : p = o := Option.some.inj (hp.symm.trans ho)
      rw [hput v d hd]
      exact hv
     ·rw [if_neg hij] at hlj
      rw [hoth v j d p hij hp hd]
      exact hmono _ _ _ _ (hphi j p d hj hp hd hlj) hr'
    ·rw [hset, if_neg (by omega), hnl] at hf
     cases hf
   by_cases hiC : i ∈ C
   ·obtain ⟨t, ht⟩ := List.mem_iff_getElem?.1 hiC
    have hts : t = s := by
     have h1 := hst t i ht
     rw [hl] at h1
     have h2 : ¬ t < s := by simpa using h1
     rcases Nat.lt_or_ge s t with h3 | h3
     ·obtain ⟨r, hr⟩ : ∃ r, t = r + 1 := ⟨t - 1, by omega⟩
      have h4 : r < C.length := by have := (List.getElem?_eq_some_iff.1 ht).1; omega
      have h5 := hC2 r h4
      have h6 : C[r]? = some C[r] := List.getElem?_eq_getElem h4
      rw [← hr, h6, ht] at h5
      simp only at h5
      have h7 := reachIn_listed hcl _ _ _ o ho haft h5
      rw [hst r _ h6] at h7
      have h8 : r < s := by simpa using h7
      omega
     ·omega
    subst hts
    have hch := hchain t i o ht ho a w u hJs hsame hmet
    rw [if_pos hch.1]
    refine Oper.wp_mono (fun a' w' h' => ?_) hch.2
    obtain ⟨v, rfl, hv, hj, hr'⟩ := h'
    refine key v w' hv ⟨t + 1, v, (List.getElem?_eq_some_iff.1 ht).1, hj, fun x k hx => ?_, fun x k d p hx hk hp hd => ?_⟩ hr'
    ·rw [hset]
     by_cases hik : i = k
     ·subst hik
      rw [if_pos rfl, hinj x t i hx ht]
      simp
     ·rw [if_neg hik, hst x k hx]
      have hne : x ≠ t := fun e => hik (by subst e; exact Option.some.inj (ht.symm.trans hx))
      congr 1
      rw [decide_eq_decide]
      omega
    ·obtain rfl : t = x := by omega
     obtain rfl : i = k := Option.some.inj (ht.symm.trans hk)
     obtain rfl : o = p := Option.some.inj (ho.symm.trans hp)
     exact hput v d hd
   ·have hkeep : ∀ v w', Below w.heap.size w w' → ChainSt J C ops (listed.setIfInBounds i true) (a.put o.dst v) w' := by
     intro v w' hb
     refine ⟨s, u, hsl, hJ _ _ _ _ hJs hb, fun x k hx => ?_, fun x k d p hx hk hp hd => ?_⟩
     ·rw [hset, if_neg (fun e => hiC (by subst e; exact List.mem_of_getElem? hx))]
      exact hst x k hx
     ·rw [hoth v k d p (fun e => hiC (by subst e; exact List.mem_of_getElem? hk)) hp hd]
      exact hu x k d p hx hk hp hd
    have hst2 := hstep i o hin hiC ho a w s u hJs hsame hmet
    split
    ·rename_i hw
     rw [if_pos hw] at hst2
     refine Oper.wp_mono (fun a' w' h' => ?_) hst2
     obtain ⟨v, rfl, hv, hb'⟩ := h'
     exact key v w' hv (hkeep v w' hb') (hRel _ _ hb')
    ·rename_i hw
     rw [if_neg hw] at hst2
     exact key undef w hst2 (hkeep undef w (Below.refl _ _)) (hRel _ _ (Below.refl _ _))
  ·obtain rfl : i = n := by omega
   rw [if_pos (by simp [Region.wanted, (hback i o ho).1 rfl])]
   have hall : ∀ (d j : Nat), j < i → i - j ≤ d → listed[j]? = some true := by
    intro d
    induction d with
    | zero => intro j hj hd; omega
    | succ d ih =>
     intro j hj hd
     have h1 := hcov j hj
     rw [List.any_eq_true] at h1
     obtain ⟨k, hk, h1⟩ := h1
     rw [List.mem_range] at hk
     simp only [Bool.and_eq_true, decide_eq_true_eq] at h1
     obtain ⟨hjk, h1⟩ := h1
     split at h1
     ·rename_i q hq
      rw [← Array.any_toList, List.any_eq_true] at h1
      obtain ⟨e, he, h1⟩ := h1
      simp only [Bool.and_eq_true, beq_iff_eq] at h1
      obtain ⟨hb, rfl⟩ := h1
      replace he := Array.mem_toList_iff.1 he
      by_cases hki : k = i
      ·subst hki
       obtain rfl : q = o := Option.some.inj (hq.symm.trans ho)
       exact haft e he hb
      ·exact hcl k q hq (ih k (by omega) (by omega)) e he hb
     ·cases h1
   have hsn : s = C.length := by
    rcases Nat.lt_or_ge s C.length with h1 | h1
    ·have h2 : C[s]? = some C[s] := List.getElem?_eq_getElem h1
     have h3 := hst s _ h2
     rw [hall i _ (hCn s _ h2) (by omega)] at h3
     simp at h3
    ·omega
   refine Oper.wp_mono (fun a' w' h' => hK' a' w' ?_) (hlast o ho a w u (hsn ▸ hJs) (fun t k d p ht hk hp hd => hu t k d p (hsn.trans ht) hk hp hd) hsame hmet)
   refine ⟨hcl', fun hf => ?_, fun _ => ⟨fun j hj => ?_, h'⟩⟩
   ·rw [hset, if_pos rfl] at hf
    cases hf
   ·rw [hset, if_neg (by omega)]
    exact hall i j hj (by omega)
 ·rintro listed a w hs ⟨hcl, hun, hfin⟩ hr
  have hall : ∀ i, i ≤ n → listed[i]? = some true := by
   intro i
   induction i using Nat.strongRecOn with
   | _ i ih =>
    intro hi
    have hlt : i < listed.size := by omega
    have hlo : i < ops.size := by omega
    cases hb : listed[i] with
    | true => rw [Array.getElem?_eq_getElem hlt, hb]
    | false =>
     have hmem := ready_mem (md := .any) (Array.getElem?_eq_getElem hlo) (by rw [Array.getElem?_eq_getElem hlt, hb] : listed[i]? = some false) (fun e he _ => ih e.on ((hback i _ (Array.getElem?_eq_getElem hlo)).2.1 e he) (by have := (hback i _ (Array.getElem?_eq_getElem hlo)).2.1 e he; omega))
     rw [hr] at hmem
     cases hmem
  exact (hfin (hall n (Nat.le_refl _))).2
 ·have hu : ∀ m, undone (List.replicate m false) = m := by
   intro m
   induction m with
   | zero => rfl
   | succ m ih => rw [List.replicate_succ, undone, ih]; simp; omega
  simp [hu]
 ·refine ⟨fun i o ho hl => ?_, fun _ => ⟨⟨rfl, rfl, fun _ _ => rfl⟩, ⟨0, h0.choose, Nat.zero_le _, h0.choose_spec, fun t i ht => ?_, fun t i d o ht => absurd ht (by omega)⟩, fun j p d hj hp hd hl => ?_⟩, fun hl => ?_⟩
  ·rw [Array.getElem?_replicate] at hl; split at hl <;> cases hl
  ·rw [Array.getElem?_replicate, if_pos (by have := hCn t i ht; omega)]; simp
  ·rw [Array.getElem?_replicate] at hl; split at hl <;> cases hl
  ·rw [Array.getElem?_replicate] at hl; split at hl <;> cases hl
set_option maxRecDepth 100000 in
theorem rturned_any (x k : Nat) (w : World) (hx : x < 4294967296) (hk : 0 < k) (hk2 : k < 32) :
  Calls Tryz.prog 183 #[U32 x, I k] w fun e w' => e = .returned (U32 (rot32 x k)) ∧ ∃ m, w' = w.drewN m := by
 have k1 : IntKind.i64.wrap ((32 : Int) - (k : Int)) = ((32 - k : Nat) : Int) := by rw [IntWalk.i64_in _ (by omega)]; omega
 have d1 : decide ((k : Int) < 0) = false := decide_eq_false (by omega)
 have d2 : decide (((32 - k : Nat) : Int) < 0) = false := decide_eq_false (by omega)
 go_enter Tryz.func183, Tryz.ntmps183
 go_wp2
 go_quiet (fail)
 go_wp2
 go_ret
 refine ⟨?_, _, rfl⟩
 have e1 : (x : Int) * 2 ^ k % 4294967296 = (((x <<< k) % two32 : Nat) : Int) := by
  rw [Nat.shiftLeft_eq, Int.natCast_emod, Int.natCast_mul, Int.natCast_pow]
  rfl
 have e2 : (x : Int) / 2 ^ (32 - k) = ((x >>> (32 - k) : Nat) : Int) := by
  rw [Nat.shiftRight_eq_div_pow, Int.natCast_ediv, Int.natCast_pow]
  rfl
 rw [e1, e2, or32 _ _ (Nat.mod_lt _ (by decide)) (by rw [Nat.shiftRight_eq_div_pow]; exact Nat.lt_of_le_of_lt (Nat.div_le_self _ _) hx)]
 rfl
def rt4Phi (b off c i co gg9 c5 : Nat) (Ao A5 : Option Addr) (c0 c1 c2 c3 : UInt8) (j0 j1 j2 j3 b0 b1 b2 b3 m1 m2 m3 a1 a2 a3 : Nat) : Nat → Value → World → Prop
 | 0, v, _ => v = .slice Ao i co
 | 1, v, _ => v = .slice (some ⟨b, off, none⟩) 32 c
 | 2, v, _ => v = I ((i : Int))
 | 3, v, _ => v = I ((j0 : Int))
 | 4, v, _ => v = .pointer (some ⟨b, off + j0, none⟩)
 | 5, v, _ => v = U8 c0
 | 6, v, _ => v = U32 b0
 | 7, v, _ => v = .slice (some ⟨b, off, none⟩) 32 c
 | 8, v, _ => v = I ((i : Int))
 | 9, v, _ => v = I ((j0 : Int))
 | 10, v, _ => v = I ((j1 : Int))
 | 11, v, _ => v = .pointer (some ⟨b, off + j1, none⟩)
 | 12, v, _ => v = U8 c1
 | 13, v, _ => v = U32 b1
 | 14, v, _ => v = U32 m1
 | 15, v, _ => v = U32 a1
 | 16, v, _ => v = .slice (some ⟨b, off, none⟩) 32 c
 | 17, v, _ => v = I ((i : Int))
 | 18, v, _ => v = I ((j0 : Int))
 | 19, v, _ => v = I ((j2 : Int))
 | 20, v, _ => v = .pointer (some ⟨b, off + j2, none⟩)
 | 21, v, _ => v = U8 c2
 | 22, v, _ => v = U32 b2
 | 23, v, _ => v = U32 m2
 | 24, v, _ => v = U32 a2
 | 25, v, _ => v = .slice (some ⟨b, off, none⟩) 32 c
 | 26, v, _ => v = I ((i : Int))
 | 27, v, _ => v = I ((j0 : Int))
 | 28, v, _ => v = I ((j3 : Int))
 | 29, v, _ => v = .pointer (some ⟨b, off + j3, none⟩)
 | 30, v, _ => v = U8 c3
 | 31, v, _ => v = U32 b3
 | 32, v, _ => v = U32 m3
 | 33, v, _ => v = U32 a3
 | 34, v, _ => v = .slice (some ⟨gg9, 0, none⟩) 1 1
 | 35, v, _ => v = .slice A5 (i + 1) c5
 | _, _, _ => True
theorem Tryz.infoU32 : (Tryz.prog.info? 179).map (fun i => (i.zero, i.size, i.bytes)) = some (some (.int .u32 0), 1, 4) := by kernel_rfl
theorem one_u32s (l : List Nat) : ∀ u ∈ u32s l, u.oneCell' = true := by
 intro u hu; obtain ⟨s, _, rfl⟩ := List.mem_map.1 hu; rfl
theorem wrap32_both (z : Int) (x : Nat) (h : z = x) (hx : x < 4294967296) : IntKind.u32.wrap z = (x : Int) ∧ z % 4294967296 = (x : Int) := by
 subst h
 exact ⟨wrapN32 x (by omega), by omega⟩
theorem wrap64_both (z : Int) (x : Nat) (h : z = x) (hx : x < 1000000000000) : IntKind.i64.wrap z = (x : Int) ∧ wrap64 z = (x : Int) := by
 subst h
 exact ⟨IntWalk.i64_in _ (by omega), by unfold wrap64; omega⟩
def wordK9 (l : List UInt8) (i : Nat) : List Nat := (List.range i).map fun k => num4 l (4 * k)
theorem wordK9_succ (l : List UInt8) (i : Nat) : wordK9 l (i + 1) = wordK9 l i ++ [num4 l (4 * i)] := by
 unfold wordK9
 rw [List.range_succ, List.map_append]
 rfl
theorem wordK9_len (l : List UInt8) (i : Nat) : (wordK9 l i).length = i := by unfold wordK9; simp
theorem wordK9_lt (l : List UInt8) (i : Nat) : ∀ x ∈ wordK9 l i, x < 4294967296 := by
 intro x hx
 obtain ⟨k, _, rfl⟩ := List.mem_map.1 hx
 exact num4_lt l _
theorem sl_u32 (w : World) (t : TypeId) (x : Nat) : Sl (w.alloc (.cells #[U32 x] t)) 1 (some ⟨w.heap.size, 0, none⟩) 1 (u32s [x]) := by
 refine ⟨by simp [u32s], fun _ => ⟨_, _, rfl, by simp, fun k hk => ?_⟩⟩
 rw [Nat.zero_add]
 simp [u32s]
theorem byte_val (l : List UInt8) (k : Nat) (hk : k < l.length) : (u8s l)[k]? = some (U8 (l.getD k 0)) := by
 unfold u8s
 rw [List.getElem?_map, List.getElem?_eq_getElem hk, List.getD_eq_getElem?_getD, List.getElem?_eq_getElem hk]
 rfl
def rs29Phi (p i k9 co gg9 c5 cs9 : Nat) (Ao A5 : Option Addr) (x v1 v2 v3 r0 r1 r2 : Nat) (c0 c1 c2 c3 : UInt8) : Nat → Value → World → Prop
 | 0, v, _ => v = .slice Ao k9 co
 | 1, v, _ => v = .slice (some ⟨p, 0, none⟩) 8 cs9
 | 2, v, _ => v = I ((i : Int))
 | 3, v, _ => v = .pointer (some ⟨p, i, none⟩)
 | 4, v, _ => v = U32 x
 | 5, v, _ => v = U32 r0
 | 6, v, _ => v = U8 c0
 | 7, v, _ => v = .slice (some ⟨p, 0, none⟩) 8 cs9
 | 8, v, _ => v = I ((i : Int))
 | 9, v, _ => v = .pointer (some ⟨p, i, none⟩)
 | 10, v, _ => v = U32 x
 | 11, v, _ => v = U32 v1
 | 12, v, _ => v = U32 r1
 | 13, v, _ => v = U8 c1
 | 14, v, _ => v = .slice (some ⟨p, 0, none⟩) 8 cs9
 | 15, v, _ => v = I ((i : Int))
 | 16, v, _ => v = .pointer (some ⟨p, i, none⟩)
 | 17, v, _ => v = U32 x
 | 18, v, _ => v = U32 v2
 | 19, v, _ => v = U32 r2
 | 20, v, _ => v = U8 c2
 | 21, v, _ => v = .slice (some ⟨p, 0, none⟩) 8 cs9
 | 22, v, _ => v = I ((i : Int))
 | 23, v, _ => v = .pointer (some ⟨p, i, none⟩)
 | 24, v, _ => v = U32 x
 | 25, v, _ => v = U32 v3
 | 26, v, _ => v = U8 c3
 | 27, v, _ => v = .slice (some ⟨gg9, 0, none⟩) 4 4
 | 28, v, _ => v = .slice A5 (k9 + 4) c5
 | _, _, _ => True
def slLen : Value → Nat
 | .slice _ n _ => n
 | _ => 0
theorem sl_byte (w : World) (t : TypeId) (x : UInt8) : Sl (w.alloc (.cells #[U8 x] t)) 1 (some ⟨w.heap.size, 0, none⟩) 1 (u8s [x]) := sl_one w t (U8 x)
theorem wrap8_both (z : Int) (x : UInt8) (h : z = (x.toNat : Int)) (hz : 0 ≤ z) : IntKind.u8.wrap z = (x.toNat : Int) ∧ z % 256 = (x.toNat : Int) := by
 have hx := x.toNat_lt
 subst h
 refine ⟨?_, by omega⟩
 show ((x.toNat : Int) % 256) = _
 omega
theorem sl_four (w : World) (t : TypeId) (a b c d : UInt8) : Sl (w.alloc (.cells #[U8 a, U8 b, U8 c, U8 d] t)) 1 (some ⟨w.heap.size, 0, none⟩) 4 (u8s [a, b, c, d]) := by
 refine ⟨rfl, fun _ => ⟨_, _, rfl, by simp, fun k hk => ?_⟩⟩
 rw [Nat.zero_add]
 simp [u8s]
theorem u8s_two (a b : List UInt8) : u8s (a ++ b) = u8s a ++ u8s b := by simp [u8s]
end Go.Proofs.YtcednfmkiaelnaaGreatDoor

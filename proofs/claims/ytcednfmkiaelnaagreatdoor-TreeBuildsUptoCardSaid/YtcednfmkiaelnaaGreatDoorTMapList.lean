/-
  A map as a function is a map as a list. Condition: whatever reads as a key or a value is one of the coding's.
-/
import Derived.Test.YtcednfmkiaelnaaGreatDoorTKitW
namespace Go.Proofs.YtcednfmkiaelnaaGreatDoor
open Go.RowKit
section
variable {P : Program} {k e : TypeId} {κ α : Type} [DecidableEq κ] {C : Coding P k e κ α} {w : World} {m n : Nat}
theorem hasL_of : ∀ (l : List (κ × α)), (l.map (fun p => (C.kl p.1, C.vd p.2))).Pairwise (fun p q => p.1 ≠ q.1) → (∀ p ∈ l, C.good p.1) →
  HasL C (.map ((l.map (fun p => (C.kl p.1, C.vd p.2))).foldr DataW.insert [])) l
 | [], _, _ => ⟨List.nodup_nil, by simp, rfl, fun _ _ => rfl⟩
 | (x, a) :: l, hp, hg => by
  rw [List.map_cons, List.pairwise_cons] at hp
  have ih := hasL_of l hp.2 (fun p h => hg p (List.mem_cons_of_mem _ h))
  have hT : Maps.Tidy (.map ((l.map (fun p => (C.kl p.1, C.vd p.2))).foldr DataW.insert []) : DataW Unit) := ⟨_, rfl, ((WideShapes.sorted_perm _).pairwise_iff (fun {_ _} hne => Ne.symm hne)).2 hp.2⟩
  have h1 := ih.put hT (hg (x, a) (by simp)) a
  have h2 : x ∉ l.map (·.1) := fun h => by
   obtain ⟨q, hq, e1⟩ := List.mem_map.1 h
   exact hp.1 (C.kl q.1, C.vd q.2) (List.mem_map.2 ⟨q, hq, rfl⟩) (by show C.kl x = C.kl q.1; rw [e1])
  have h3 : layL l x a = (x, a) :: l := by rw [layL, strike_self h2]
  rw [h3] at h1
  have h4 : ((l.map (fun p => (C.kl p.1, C.vd p.2))).foldr DataW.insert []).filter (fun p => !p.1.sameKey (C.kl x)) = (l.map (fun p => (C.kl p.1, C.vd p.2))).foldr DataW.insert [] := by
   rw [List.filter_eq_self]
   intro p hm
   have h5 := hp.1 p ((WideShapes.sorted_perm _).mem_iff.1 hm)
   cases hs : p.1.sameKey (C.kl x) with
   | false => rfl
   | true => exact absurd (WideAt.sameKey_eq hs).symm h5
  have h6 : (DataW.map ((l.map (fun p => (C.kl p.1, C.vd p.2))).foldr DataW.insert []) : DataW Unit).put (C.kl x) (C.vd a) = .map (((x, a) :: l).map (fun p => (C.kl p.1, C.vd p.2)) |>.foldr DataW.insert []) := by
   unfold DataW.put
   simp only
   rw [h4]
   rfl
  rw [← h6]
  exact h1
theorem view_eq {D : DataW Unit} {kl : Lit} {o o' : Option (DataW Unit)} (h : View D kl o) (h' : View D kl o') : o = o' := by
 cases o with
 | none => cases o' with
  | none => rfl
  | some d => exact absurd (h.symm.trans h'.1) (by simp)
 | some d => cases o' with
  | none => exact absurd (h'.symm.trans h.1) (by simp)
  | some d' => rw [← h.2 d, h'.2 d]
theorem MapIs.list {f : κ → Option α} (Fl : C.Full) (hv : ∀ a b, C.vv a = C.vv b → a = b) (h : MapIs C w m n f) : ∃ l, MapL C w m n l ∧ ∀ x, C.good x → lk l x = f x := by
 obtain ⟨D, hO, hV⟩ := h
 have hO' := hO
 obtain ⟨es, clock, hb, F, hs, rfl⟩ := hO'
 have hread : ∀ (ms : List MapEntry), (∀ x ∈ ms, ∃ y, WideElems.rd P k C.R x = some y) → ∃ l : List (κ × α), ms.map (WideElems.rg P k C.R) = l.map (fun p => (C.kl p.1, C.vd p.2)) ∧ ∀ p ∈ l, C.good p.1 := by
  intro ms
  induction ms with
  | nil => intro _; exact ⟨[], rfl, by simp⟩
  | cons x ms ih =>
   intro hx
   obtain ⟨l, h1, h2⟩ := ih (fun y hy => hx y (List.mem_cons_of_mem _ hy))
   obtain ⟨y, hy⟩ := hx x (by simp)
   have hk := WideElems.rd_key hy
   obtain ⟨z, hz, hyz⟩ := WideElems.rd_val hy
   obtain ⟨q, hq, hg⟩ := Fl.invK _ _ hk
   obtain ⟨a, ha⟩ := Fl.invV _ _ hz
   refine ⟨(q, a) :: l, ?_, fun p hp => ?_⟩
   ·rw [List.map_cons, List.map_cons, h1, WideElems.rg_of hy]
    congr 1
    have e1 : y.1 = C.kl q := Option.some.inj (by rw [← hk, hq]; exact C.key q hg)
    have e2 : y.2 = C.vd a := by
     rw [hyz]
     rw [ha, C.enc a] at hz
     rw [← Option.some.inj hz]
    exact Prod.ext e1 e2
   ·rcases List.mem_cons.1 hp with rfl | hp
    ·exact hg
    ·exact h2 p hp
 obtain ⟨l, h1, h2⟩ := hread es.toList F.reads
 have hL : HasL C (.map ((es.toList.map (WideElems.rg P k C.R)).foldr DataW.insert [])) l := by
  rw [h1]
  exact hasL_of l (by rw [← h1]; exact Maps.fit_apart C.keyed F) h2
 refine ⟨l, ⟨_, hO, hL⟩, fun x hx => ?_⟩
 have h3 := view_eq (hL.view x hx) (hV x hx)
 rcases h4 : lk l x with _ | a <;> rcases h5 : f x with _ | b
 ·rfl
 ·rw [h4, h5] at h3; cases h3
 ·rw [h4, h5] at h3; cases h3
 ·rw [h4, h5] at h3
  have e1 : C.vd a = C.vd b := Option.some.inj h3
  have e2 : C.R (C.vv a) = some (C.vd b, []) := by rw [← e1]; exact C.enc a
  rw [hv a b (C.dec _ b [] e2)]
end
end Go.Proofs.YtcednfmkiaelnaaGreatDoor

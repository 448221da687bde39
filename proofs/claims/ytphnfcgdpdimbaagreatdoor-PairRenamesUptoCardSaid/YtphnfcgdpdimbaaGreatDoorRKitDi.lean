/-
  Texts merged: WorkList, StandsLaw, Stands20. What each law says and asks stands at its head.
-/
import Derived.Test.YtphnfcgdpdimbaaGreatDoorRWorkRight
import Derived.Test.YtphnfcgdpdimbaaGreatDoorRDiskNames
import Derived.Test.YtphnfcgdpdimbaaGreatDoorRKitX
import Derived.Test.YtphnfcgdpdimbaaGreatDoorRKitN
import Derived.Test.YtphnfcgdpdimbaaGreatDoorRWorkPut
namespace Go.Proofs.YtphnfcgdpdimbaaGreatDoor
open Go.RowKit
def pathOf (s : List UInt8) : Option (List UInt8) := if Lib.hasPrefix s [119, 47] && workedB (Lib.trimPrefix s [119, 47]) then some (Lib.trimPrefix s [119, 47]) else none
def listOf (ns : List (List UInt8)) : List (List UInt8) := ns.filterMap pathOf
end Go.Proofs.YtphnfcgdpdimbaaGreatDoor
namespace Go.Proofs.YtphnfcgdpdimbaaGreatDoor
open Go.RowKit
open DiffLaw (fid ofPaths Paths Once lay sorted_is lay_once lay_fid of_mem mem_of fid_none)
def stepsOf (ns : List (List UInt8)) (cs : List Chg3) (t : List Fil) : List Fil := ((listOf ns).filter (goneP cs t)).map (fun p => (p, [])) ++ (cs.filter newB).map (fun c => (c.1, c.2.2))
theorem drop_pre (p : List UInt8) : Lib.hasPrefix (wname p) [119, 47] = true ∧ Lib.trimPrefix (wname p) [119, 47] = p := by
 have h : Lib.hasPrefix (wname p) [119, 47] = true := by simp [Lib.hasPrefix, wname]
 refine ⟨h, ?_⟩
 unfold Lib.trimPrefix
 rw [if_pos h]
 rfl
theorem pathOf_wname {p : List UInt8} (h : workedB p = true) : pathOf (wname p) = some p := by
 obtain ⟨h1, h2⟩ := drop_pre p
 unfold pathOf
 rw [h1, h2, h]
 rfl
theorem steps_want {ns ps : List (List UInt8)} {c t : List Fil} : ∀ x ∈ stepsOf ns (ofPaths ps c t) t, x.2 = fid t x.1 := by
 intro x hx
 unfold stepsOf at hx
 rcases List.mem_append.1 hx with h | h
 ·obtain ⟨p, hp, rfl⟩ := List.mem_map.1 h
  have h2 := (List.mem_filter.1 hp).2
  unfold goneP at h2
  rw [Bool.and_eq_true, decide_eq_true_eq] at h2
  exact h2.2.symm
 ·obtain ⟨d, hd, rfl⟩ := List.mem_map.1 h
  exact (of_mem (List.mem_filter.1 hd).1).2.2.1
theorem inWay_self {cs : List Chg3} {d : Chg3} (h : d ∈ cs) : inWayB cs d.1 = true := by
 unfold inWayB
 rw [List.any_eq_true]
 exact ⟨d, h, by simp [inWay1]⟩
theorem stands_fid {ns ps : List (List UInt8)} {c t : List Fil} (hP : Paths ps c t) (hns : ∀ f ∈ c, wname f.1 ∈ ns) (hw : ∀ f ∈ c, workedB f.1 = true) (p : List UInt8) : fid (lay c (stepsOf ns (ofPaths ps c t) t)) p = fid t p := by
 rw [lay_fid (want := fid t) _ steps_want]
 split
 ·rfl
 ·rename_i hno
  refine Classical.byContradiction fun hne => hno ?_
  have hps : p ∈ ps := by
   rw [hP.2 p]
   refine Classical.byContradiction fun h => ?_
   rw [not_or] at h
   exact hne (by rw [fid_none h.1, fid_none h.2])
  have hm := mem_of hps hne
  unfold stepsOf
  rw [List.map_append, List.mem_append]
  by_cases ht : fid t p = []
  ·left
   have hc : p ∈ c.map (·.1) := Classical.byContradiction fun h => hne (by rw [fid_none h, ht])
   obtain ⟨f, hf, rfl⟩ := List.mem_map.1 hc
   refine List.mem_map.2 ⟨(f.1, []), List.mem_map.2 ⟨f.1, List.mem_filter.2 ⟨List.mem_filterMap.2 ⟨wname f.1, hns f hf, pathOf_wname (hw f hf)⟩, ?_⟩, rfl⟩, rfl⟩
   unfold goneP
   rw [Bool.and_eq_true, decide_eq_true_eq]
   exact ⟨inWay_self hm, ht⟩
  ·right
   refine List.mem_map.2 ⟨(p, fid t p), List.mem_map.2 ⟨_, List.mem_filter.2 ⟨hm, ?_⟩, rfl⟩, rfl⟩
   simp [newB, ht]
theorem stands {ns ps : List (List UInt8)} {c t s : List Fil} (hc : DiffLaw.Good c) (ht : DiffLaw.Good t) (hP : Paths ps c t) (hns : ∀ f ∈ c, wname f.1 ∈ ns) (hw : ∀ f ∈ c, workedB f.1 = true)
  (hp : s.Perm (lay c (stepsOf ns (ofPaths ps c t) t))) (hs : (s.map (·.1)).Pairwise (· ≤ ·)) : s = t :=
 sorted_is (lay_once hc.once _) ht (stands_fid hP hns hw) hp hs
end Go.Proofs.YtphnfcgdpdimbaaGreatDoor
namespace Go.Proofs.YtphnfcgdpdimbaaGreatDoor
open Go.RowKit
open DiffLaw (fid ofPaths Paths)
theorem own_fr {w w' : World} {E : Nat → Prop} {base sz n : Nat} {e : TypeId} {v : Value} {xs : List Value} (h : w.ownsRow base e sz v n xs) (hf : Fr E w w') (hE : ∀ k, E k → k < base) : w'.ownsRow base e sz v n xs := by
 refine ⟨h.1, ?_⟩
 rcases h.2 with h2 | ⟨g, cap, cur, hv, hg, hh, r⟩
 ·exact .inl h2
 ·exact .inr ⟨g, cap, cur, hv, hg, (hf.block g (heap_lt hh) (fun e => by have := hE g e; omega)).trans hh, r⟩
theorem ow_cut {w : World} {base sz n c : Nat} {A : Option Addr} {e : TypeId} {xs : List Value} (h : w.ownsRow base e sz (.slice A n c) n xs) (hb : base ≤ w.heap.size) : ∃ B : World, B.heap.size = base ∧ Ow B w e sz A n c xs := by
 have e1 : ({ w with heap := w.heap.extract 0 base } : World).heap.size = base := by simp; omega
 refine ⟨{ w with heap := w.heap.extract 0 base }, e1, ?_, rfl, rfl, rfl, by rw [e1]; exact hb, fun k hk => ?_⟩
 ·rw [e1]; exact h
 ·rw [e1] at hk
  show w.heap[k]? = (w.heap.extract 0 base)[k]?
  rw [Array.getElem?_extract]
  simp; omega
end Go.Proofs.YtphnfcgdpdimbaaGreatDoor
